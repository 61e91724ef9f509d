/-
  Lemmas for the last text of this claim (part 14 of 20).
-/
import Derived.ArgAppend
import Derived.BigQuiet
import Derived.BigRegion
import Derived.ChangeOld
import Derived.Deep.RegionWith
import Derived.DeepKeys4
import Derived.JoinedCond
import Derived.LaidMore
import Derived.Laws.Append
import Derived.Laws.BytesArg
import Derived.Laws.CopyOwn
import Derived.Laws.Externs
import Derived.Laws.IdiomStrings
import Derived.Laws.Tables
import Derived.Lib.AppendStr
import Derived.Lib.AppendZerosOnto
import Derived.Lib.Mul64
import Derived.Lib.SlBytesConst
import Derived.LoopN
import Derived.Maps.OwnSet
import Derived.OpenShut
import Derived.OrdersHeld
import Derived.ProofKit
import Derived.Shelf.Spec.BitsCarry
import Derived.ShutString
import Derived.Test.YticcbmhcgmhohaaGreatProg
import Derived.Test.YticcbmhcgmhohaaGreatRows
import Derived.WalkKit
import Derived.WalkLawsBesides
import Derived.WalkSpells
import Derived.Test.YticcbmhcgmhohaaGreatPB
import Derived.Test.YticcbmhcgmhohaaGreatPC
import Derived.Test.YticcbmhcgmhohaaGreatPE
import Derived.Test.YticcbmhcgmhohaaGreatPI
import Derived.Test.YticcbmhcgmhohaaGreatPL
import Derived.Test.YticcbmhcgmhohaaGreatPM
open Bool renaming and_eq_true → QC2, eq_iff_iff → QDw
open List renaming replicate → QCC, getElem?_cons_succ → QCD, getElem?_cons_zero → QCE, length_map → QCF, nil_append → QCH, cons_append → QCI, getElem?_eq_getElem → QCJ, getD_eq_getElem?_getD → QCK, setIfInBounds_toArray → QCL, length_append → QCM, set_cons_zero → QCN, set_cons_succ → QCO, take_of_length_le → QCQ, getElem?_append_right → QCR, length_replicate → QCS, map_toArray → QCT, append_assoc → QCU, getElem?_eq_some_iff → QCV, getElem?_append_left → QCW, getElem?_map → QCY, mem_cons → QCZ, not_mem_nil → QC0, map_nil → QC3, length_take → QC5, length_drop → QC6, map_cons → QC9, take_append_drop → QDa, set_append_right → QDc, take_succ_eq_append_getElem → QDd, append_nil → QDf, map_replicate → QDi, drop_left' → QDj, eq_nil_of_length_eq_zero → QDk, length_set → QDl, map_append → QDq, take_left' → QDx, getElem?_drop → QDE, flatten_cons → QDU, getElem_mem → QD0, drop_drop → QD5, drop_zero → QD7, map_take → QD9, drop_eq_nil_of_le → QEc, drop_append → QET, flatten_nil → QEV
open Nat renaming le_refl → QCP, zero_add → QC4, le_trans → QDm, add_zero → QD8
open Option renaming toList_some → QCG, map_eq_some_iff → QED
open UInt64 renaming ofNat → QC7
set_option linter.all false
namespace Go.Proofs.YticcbmhcgmhohaaGreat
open Go.RowKit
open Go.BigFrame
abbrev sMac:ByteArray:=⟨#[109,97,99]⟩
abbrev Qeq:ByteArray:=⟨#[115,116,114,101,97,109]⟩
abbrev sPay:ByteArray:=⟨#[112,97,121]⟩
abbrev Qb8:ByteArray:=⟨#[98,108,105,110,100]⟩
def k4 (s:List UInt8):List UInt8:=derB s sMac++(derB s Qeq++(derB s sPay++derB s Qb8))
theorem Qh0 (s:List UInt8):(k4 s).length=128:=by simp[k4,QaB]
theorem Qw6 (s:List UInt8):Qdj s [sMac,Qeq,sPay,Qb8] 4=k4 s:=by
 rw[Qdj,k4]
 simp
def ofB (s:List UInt8):List UInt8:=if s.length=32 then k4 s else QCC 128 0
def ofE (s:List UInt8):Nat:=if s.length=32 then 0 else 2
theorem Qki:(Tryz.prog.info? 168).map (·.size)=some 128:=by kernel_rfl
theorem Qyr:(Tryz.prog.info? 168).bind (·.zero)=some (.agg (QCC 128 (W8 0)).toArray):=by kernel_rfl
theorem Qp9 (p q r s:List UInt8) (hp:p.length=32) (hq:q.length=32) (hr:r.length=32) (hs:s.length=32):
 Program.built Tryz.prog 168 [(0,.agg (p.map W8).toArray),(1,.agg (q.map W8).toArray),(2,.agg (r.map W8).toArray),(3,.agg (s.map W8).toArray)]=some ((p++(q++(r++s))).map W8).toArray:=by
 have h:=QfN (n:=128) (pl:=[(0,32),(32,32),(64,32),(96,32)]) Tryz.underlying168 Qyr (by kernel_rfl) [(0,0,p),(1,32,q),(2,64,r),(3,96,s)] (by
  intro x hx
  simp only[QCZ,QC0,or_false]at hx
  rcases hx with rfl|rfl|rfl|rfl<;>simp[hp,hq,hr,hs])
 rw[show QfH (QCC 128 0) ([(0,0,p),(1,32,q),(2,64,r),(3,96,s)].map fun x=>(x.2.1,x.2.2))=p++(q++(r++s)) by
  simp only[QC9,QC3,QfH]
  rw[show QCC 128 (0:UInt8)=QCC 32 0++(QCC 32 0++(QCC 32 0++QCC 32 0)) by simp]
  rw[Qeb _ _ _ (by simp[hp]),Qca _ _ _ _ 32 hp (by simp[hq])]
  rw[←QCU p q,Qca _ _ _ _ 64 (by simp[hp,hq]) (by simp[hr]),←QCU _ r,Qe4 _ _ _ 96 (by simp[hp,hq,hr]) (by simp[hs])]
  simp]at h
 exact h
theorem QmD:Program.built Tryz.prog 168 []=some ((QCC 128 (0:UInt8)).map W8).toArray:=by
 rw[QDi]
 kernel_rfl
section
variable {ops:Array Oper} {rest:List Oper} {o:Oper} {a:Act} {w:World} {Q:Exit→Act→World→Prop}
theorem QmC (hgd:o.guard=none) (hd:o.dst=none) (x y:Operand) (ho:o.op= .store 168 x y) {g:Nat} {t:TypeId} {l:List Value} {bs:List UInt8} (hg:Blk w g t l) (hx:a.eval x= .pointer (some ⟨g,0,none⟩)) (hy:a.eval y= .agg (bs.map W8).toArray) (hbl:bs.length=128) (hl:l.length=128)
 (h:∀w',Blk w' g t (bs.map W8)→Only g w w'→wpList Tryz.prog ops Q rest a w'):wpList Tryz.prog ops Q (o :: rest) a w:=
 QgT 128 hgd hd x y ho hg hx hy Qki hbl hl h
theorem Qz8 (hw:Region.wanted o (yielded ops a.tmps)=true) (x:Operand) (ho:o.op= .load 168 x) {g:Nat} {t:TypeId} {bs:List UInt8} (hb:Blk w g t (bs.map W8)) (hl:bs.length=128) (hx:a.eval x= .pointer (some ⟨g,0,none⟩))
 (h:wpList Tryz.prog ops Q rest (a.put o.dst (.agg (bs.map W8).toArray)) w):wpList Tryz.prog ops Q (o :: rest) a w:=
 Qbn hw _ x ho g t _ hb hx _ Tryz.underlying168 rfl 128 Qki (by rw[QCF,hl]) h
end
set_option maxRecDepth 100000 in
set_option maxHeartbeats 4000000 in
theorem Qyq (A:Option Addr) (n c:Nat) (s:List UInt8) (w:World) (hx:RdB w A n s) (hc:n≤c) (hn:n≤35184372088832):
 Calls Tryz.prog 160 #[.slice A n c] w fun e w'=>e= .returned (.tuple #[.agg ((ofB s).map W8).toArray,.int .i64 (ofE s:Nat)])∧Later w w':=by
 have hl:=hx.len
 have B0:=QaW w 168 Tryz.zeroCells168.toList
 have hz0:Tryz.zeroCells168.toList.length=128:=by kernel_rfl
 by_cases h32:n=32
 ·subst h32
  have e1:ofE s=0:=by rw[ofE,if_pos hl]
  have e2:ofB s=k4 s:=by rw[ofB,if_pos hl]
  rw[e1,e2]
  clear e1 e2
  have hD:=hid (fun (w:World) B d h1 h2=>QjD A B 32 c 4 d s [sMac,Qeq,sPay,Qb8] w h1 hc hn h2 (by omega) (by omega) (by intro x hx;simp only[QCZ,QC0,or_false]at hx;rcases hx with rfl|rfl|rfl|rfl<;>decide))
  rw[Qw6]at hD
  rw[k4]at *
  have hp:=QaB s sMac
  have hq:=QaB s Qeq
  have hr:=QaB s sPay
  have ht:=QaB s Qb8
  generalize derB s sMac=p at *
  generalize derB s Qeq=q at *
  generalize derB s sPay=r at *
  generalize derB s Qb8=t at *
  have hbk:=Qp9 p q r t hp hq hr ht
  obtain⟨K,hK⟩:∃K,K=p++(q++(r++t)):=⟨_,rfl⟩
  rw[←hK]at hD hbk ⊢
  have s0:subB K 0 32=p:=by rw[hK,Qjf _ _ _ hp]
  have s1:subB K 32 32=q:=by rw[hK,QbQ _ _ _ _ _ hp hq]
  have s2:subB K 64 32=r:=by rw[hK,←QCU,QbQ _ _ _ _ _ (by simp[hp,hq]) hr]
  have s3:subB K 96 32=t:=by rw[hK,←QCU,←QCU,Ql4 _ _ _ _ (by simp[hp,hq,hr]) ht]
  have hKl:K.length=128:=by rw[hK];simp[hp,hq,hr,ht]
  clear hK
  go_enter Tryz.func160,Tryz.ntmps160
  go_wp2_with fail
  generalize hW:(w.alloc _).alloc _=w1
  have B1:Bag w w1 [(w.heap.size,168,Tryz.zeroCells168.toList)]:=by rw[←hW];exact B0.later (Qaa _ _)
  have hS:Strs w1 (some ⟨w.heap.size+1,0,none⟩) 4 [sMac,Qeq,sPay,Qb8]:=by
   rw[←hW]
   exact Blk.rd (Blk.new' (w.alloc (.cells Tryz.zeroCells168 168)) 9 [Value.string sMac,Value.string Qeq,Value.string sPay,Value.string Qb8] (by simp)) rfl
  clear hW
  (with_reducible refine (hD.out _ _ 4 (hx.later B1.lat) hS).mono ?_);rintro e w2 ⟨g,rfl,hg,hb2,j2⟩
  have B2:=(B1.later j2).add (Qab _) (k:=g) (by have:=(B1.nth 0 rfl).lt;simp;omega) (by have:=B1.lat.size;omega) hb2.drew
  clear hS hb2 hg B0 j2 B1
  go_wp2_with fail
  refine Qag [] [0,1,2,3,4,5,6,7,8,9,10,11,12] [13,14] (by as_aux_lemma=>kernel_rfl) (by as_aux_lemma=>kernel_rfl) (by intro _ _ d _ _ h;cases d<;>exact h) ?_
  simp only[Qah,pick,QCD,QCE,QCG,QCI,QCH]
  repeat (first|go_big_quiet_skip|(go_big_quiet_want;(first|refine QfK 0 32 _ rfl (B2.nth 0 rfl) rfl Tryz.underlying25 rfl Qfa s0 hp ?_|refine QfK 32 32 _ rfl (B2.nth 0 rfl) rfl Tryz.underlying25 rfl Qfa s1 hq ?_|refine QfK 64 32 _ rfl (B2.nth 0 rfl) rfl Tryz.underlying25 rfl Qfa s2 hr ?_|refine QfK 96 32 _ rfl (B2.nth 0 rfl) rfl Tryz.underlying25 rfl Qfa s3 ht ?_|refine Qcc _ _ rfl (K.map W8) (by simp only[QCT,QC9,QC3];exact hbk) ?_);simp only[Act.put,QCL,QCO,QCN];go_big_quiet_on)|(go_big_quiet_step (fail)))
  refine wpQuiet_nil ?_
  go_wp2_with (first
   | (refine QmC rfl rfl _ _ rfl (B2.nth 1 rfl) rfl rfl hKl hz0 ?_;intro w9 hb9 ho9)
   | fail)
  exact bodyPost_ret (Qai rfl _ _ _ _ _ _ hb9 rfl Tryz.underlying168 rfl (by rw[QCF,hKl];exact Qki)) rfl ⟨rfl,(B2.write 1 rfl ho9 hb9).lat⟩
 ·have e1:ofE s=2:=by rw[ofE,if_neg (by omega)]
  have e2:ofB s=QCC 128 0:=by rw[ofB,if_neg (by omega)]
  rw[e1,e2]
  clear e1 e2
  have hb0:=QmD
  have hzl:(QCC 128 (0:UInt8)).length=128:=by simp
  generalize QCC 128 (0:UInt8)=Z at *
  have hne:((n:Int) != 32)=true:=by simp;omega
  go_enter Tryz.func160,Tryz.ntmps160
  go_wp2_with (first
   | (refine Qam rfl 168 _ rfl (Z.map W8) ?hb ?_;(case hb=>simp only[QCT,QC3];exact hb0))
   | (refine QmC rfl rfl _ _ rfl (B0.nth 0 rfl) rfl rfl hzl hz0 ?_;intro w9 hb9 ho9)
   | fail)
  exact bodyPost_ret (Qai rfl _ _ _ _ _ _ hb9 rfl Tryz.underlying168 rfl (by rw[QCF,hzl];exact Qki)) rfl ⟨rfl,(Qaa _ _).only ho9 (QCP _)⟩
theorem Qju (x y:List UInt8) (off n:Nat):(subB x off n==subB y off n&&x.drop (off+n)==y.drop (off+n))=(x.drop off==y.drop off):=by
 rw[QDw]
 simp only[QC2,beq_iff_eq,subB,←QD5]
 constructor
 ·rintro⟨h1,h2⟩
  rw[←QDa n (x.drop off),h1,h2,QDa]
 ·intro h
  rw[h]
  exact⟨rfl,rfl⟩
theorem Qmy (x y:List UInt8) (off n:Nat) (hx:x.length=off+n) (hy:y.length=off+n):(subB x off n==subB y off n)=(x.drop off==y.drop off):=by
 rw[subB,subB,QCQ (by rw[QC6];omega),QCQ (by rw[QC6];omega)]
theorem Qbz (x:List UInt8) (off n:Nat):(((x.map W8).drop off).take n)=(subB x off n).map W8:=by rw[subB,QD9,List.map_drop]
abbrev Y128:={l:List UInt8 // l.length=128}
theorem Ql1 {P:Program} {t:TypeId} {fs:Array Field} (hu:P.underlying t=some (.struct fs)):P.fieldsOf t=fs:=by unfold Program.fieldsOf;rw[hu]
theorem QxT (d:Nat) (x y:List UInt8) (hx:x.length=128) (hy:y.length=128) (w:World):
 (Op.eqFields (d+2) (x.map W8).toArray (y.map W8).toArray (Tryz.prog.fieldsOf 168).toList).run Tryz.prog w= .ok (x==y) w:=by
 rw[Ql1 Tryz.underlying168]
 have l1:∀off,off+32≤128→(subB x off 32).length=32:=fun off h=>Qaq (by omega)
 have l2:∀off,off+32≤128→(subB y off 32).length=32:=fun off h=>Qaq (by omega)
 rw[QbH (k:=0) rfl (by decide) rfl (Qbz x 0 32) (Qbz y 0 32) (l1 _ (by omega)) (l2 _ (by omega)),QbH (k:=32) rfl (by decide) rfl (Qbz x 32 32) (Qbz y 32 32) (l1 _ (by omega)) (l2 _ (by omega)),
  QbH (k:=64) rfl (by decide) rfl (Qbz x 64 32) (Qbz y 64 32) (l1 _ (by omega)) (l2 _ (by omega)),QbH (k:=96) rfl (by decide) rfl (Qbz x 96 32) (Qbz y 96 32) (l1 _ (by omega)) (l2 _ (by omega)),QcH]
 have h:(x==y)=(subB x 0 32==subB y 0 32&&(subB x 32 32==subB y 32 32&&(subB x 64 32==subB y 64 32&&subB x 96 32==subB y 96 32))):=by
  rw[Qmy x y 96 32 (by omega) (by omega),Qju x y 64 32,Qju x y 32 32,Qju x y 0 32]
  rfl
 rw[h]
 cases subB x 0 32==subB y 0 32<;>cases subB x 32 32==subB y 32 32<;>cases subB x 64 32==subB y 64 32<;>cases subB x 96 32==subB y 96 32<;>rfl
theorem QuX:Tryz.prog.eqGuardType Tryz.prog.depth 168=false:=by kernel_rfl
theorem QpL:Tryz.prog.stoodInHeld 168=false:=by kernel_rfl
theorem QmZ:Tryz.prog.underlying 168=some (.struct (Tryz.prog.fieldsOf 168)):=by rw[Ql1 Tryz.underlying168];exact Tryz.underlying168
@[go_sem high] theorem Qwb (op:BinOp) (x y:Operand) (xs ys:Array Value) (w:World):(eqGuard op 168 x y (.agg xs) (.agg ys)).run Tryz.prog w= .ok () w:=run_eqGuard_agg w op _ x y xs ys QuX
@[go_sem high] theorem QvT (x y:Y128) (w:World):(binOp .eql 168 (.agg (x.val.map W8).toArray) (.agg (y.val.map W8).toArray)).run Tryz.prog w= .ok (.bool (x.val==y.val)) w:=by
  rw[Qgo QmZ QpL,QxT 9997 _ _ x.2 y.2]
  rfl
theorem Qis:(Tryz.prog.info? 170).map (·.size)=some 192:=by kernel_rfl
theorem QwC:(Tryz.prog.info? 170).bind (·.zero)=some (.agg (QCC 192 (W8 0)).toArray):=by kernel_rfl
theorem put3 (k a s:List UInt8) (hk:k.length=128) (ha:a.length=32) (hs:s.length=32):QfH (QCC 192 0) [(0,k),(128,a),(160,s)]=k++(a++s):=by
 simp only[QfH]
 rw[show QCC 192 (0:UInt8)=QCC 128 0++(QCC 32 0++QCC 32 0) by simp]
 rw[Qeb _ _ _ (by simp[hk]),Qca _ _ _ _ 128 hk (by simp[ha]),←QCU,Qe4 _ _ _ 160 (by simp[hk,ha]) (by simp[hs]),QCU]
theorem QpZ (k a s:List UInt8) (hk:k.length=128) (ha:a.length=32) (hs:s.length=32):
 Program.built Tryz.prog 170 [(0,.agg (k.map W8).toArray),(1,.agg (a.map W8).toArray),(2,.agg (s.map W8).toArray)]=some ((k++(a++s)).map W8).toArray:=by
 have h:=QfN (n:=192) (pl:=[(0,128),(128,32),(160,32)]) Tryz.underlying170 QwC (by kernel_rfl) [(0,0,k),(1,128,a),(2,160,s)] (by
  intro x hx
  simp only[QCZ,QC0,or_false]at hx
  rcases hx with rfl|rfl|rfl<;>simp[hk,ha,hs])
 rw[show QfH (QCC 192 0) ([(0,0,k),(1,128,a),(2,160,s)].map fun x=>(x.2.1,x.2.2))=k++(a++s) from put3 k a s hk ha hs]at h
 exact h
theorem QmQ:Program.built Tryz.prog 170 []=some ((QCC 192 (0:UInt8)).map W8).toArray:=by
 rw[QDi]
 kernel_rfl
section
variable {ops:Array Oper} {rest:List Oper} {o:Oper} {a:Act} {w:World} {Q:Exit→Act→World→Prop}
theorem QeC (hgd:o.guard=none) (hd:o.dst=none) (x y:Operand) (ho:o.op= .store 170 x y) {g:Nat} {t:TypeId} {l:List Value} {bs:List UInt8} (hg:Blk w g t l) (hx:a.eval x= .pointer (some ⟨g,0,none⟩)) (hy:a.eval y= .agg (bs.map W8).toArray) (hbl:bs.length=192) (hl:l.length=192)
 (h:∀w',Blk w' g t (bs.map W8)→Only g w w'→wpList Tryz.prog ops Q rest a w'):wpList Tryz.prog ops Q (o :: rest) a w:=
 QgT 192 hgd hd x y ho hg hx hy Qis hbl hl h
theorem Qe8 (hw:Region.wanted o (yielded ops a.tmps)=true) (x:Operand) (ho:o.op= .load 170 x) {g:Nat} {t:TypeId} {bs:List UInt8} (hb:Blk w g t (bs.map W8)) (hl:bs.length=192) (hx:a.eval x= .pointer (some ⟨g,0,none⟩))
 (h:wpList Tryz.prog ops Q rest (a.put o.dst (.agg (bs.map W8).toArray)) w):wpList Tryz.prog ops Q (o :: rest) a w:=
 Qbn hw _ x ho g t _ hb hx _ Tryz.underlying170 rfl 192 Qis (by rw[QCF,hl]) h
end
set_option maxRecDepth 100000 in
set_option maxHeartbeats 4000000 in
theorem Qje (al s:List UInt8) (hal:al.length=32) (hs:s.length=32) (w:World):
 Calls Tryz.prog 95 #[.agg (al.map W8).toArray,.agg (s.map W8).toArray] w fun e w'=>e= .returned (.tuple #[.agg ((k4 s++(al++s)).map W8).toArray,.int .i64 0])∧Later w w':=by
 have hO:=hid (fun (w:World) g h=>Qyq (some ⟨g,0,none⟩) 32 32 s w h (by omega) (by omega))
 rw[show ofB s=k4 s by rw[ofB,if_pos hs],show ofE s=0 by rw[ofE,if_pos hs]]at hO
 have hkl:=Qh0 s
 generalize k4 s=K at *
 have hbs:=QpZ K al s hkl hal hs
 have hTl:(K++(al++s)).length=192:=by simp[hkl,hal,hs]
 generalize K++(al++s)=T at *
 have hz1:Tryz.zeroCells168.toList.length=128:=by kernel_rfl
 have hz0:Tryz.zeroCells170.toList.length=192:=by kernel_rfl
 have C1:=QaW w 25 (al.map W8)
 have C2:Bag w ((w.alloc (.cells (al.map W8).toArray 25)).alloc (.cells (s.map W8).toArray 25)) [(w.heap.size+1,25,s.map W8),(w.heap.size,25,al.map W8)]:=
  C1.add (Qaa _ _) (by simp) (by omega) (Blk.new' _ _ _ (by simp))
 have C3:Bag w (((w.alloc (.cells (al.map W8).toArray 25)).alloc (.cells (s.map W8).toArray 25)).alloc (.cells Tryz.zeroCells170 170)) [(w.heap.size+2,170,Tryz.zeroCells170.toList),(w.heap.size+1,25,s.map W8),(w.heap.size,25,al.map W8)]:=
  C2.add (Qaa _ _) (by simp) (by omega) (Blk.new' _ _ _ (by simp))
 clear C1 C2
 go_enter Tryz.func95,Tryz.ntmps95
 go_wp2_with fail
 generalize hW:((w.alloc _).alloc _).alloc _=w0
 replace C3:Bag w w0 [(w.heap.size+2,170,Tryz.zeroCells170.toList),(w.heap.size+1,25,s.map W8),(w.heap.size,25,al.map W8)]:=by rw[←hW];exact C3
 clear hW
 (with_reducible refine (hO.out _ _ (Qcr (C3.nth 1 rfl) hs)).mono ?_);rintro e w1 ⟨rfl,j1⟩
 go_wp2_with (first
  | (refine QmC rfl rfl _ _ rfl (Blk.new w1 _ Tryz.zeroCells168.toList) rfl rfl hkl hz1 ?_;intro w2 hb2 ho2
     have C4:=C3.push (j1.trans (Qaa w1 _)) j1.size ho2 hb2)
  | (refine Qz8 rfl _ rfl (C4.nth 0 rfl) hkl rfl ?_)
  | (refine QeM rfl _ rfl (C4.nth 3 rfl) hal rfl ?_)
  | (refine QeM rfl _ rfl (C4.nth 2 rfl) hs rfl ?_)
  | (refine Qam rfl 170 _ rfl (T.map W8) ?hb ?_;(case hb=>simp only[QCT,QC9,QC3];exact hbs))
  | (refine QeC rfl rfl _ _ rfl (C4.nth 1 rfl) rfl rfl hTl hz0 ?_;intro w9 hb9 ho9)
  | fail)
 exact bodyPost_ret (Qai rfl _ _ _ _ _ _ hb9 rfl Tryz.underlying170 rfl (by rw[QCF,hTl];exact Qis)) rfl ⟨rfl,(C4.write 1 rfl ho9 hb9).lat⟩
set_option maxRecDepth 100000 in
set_option maxHeartbeats 4000000 in
theorem Qoi (x b al:List UInt8) (hx:x.length=192) (hb:subB x 96 32=b) (hal:subB x 128 32=al) (w:World):
 Calls Tryz.prog 96 #[.agg (x.map W8).toArray] w fun e w'=>e= .returned (.tuple #[.agg ((Qbe b al).map W8).toArray,.int .i64 (Qbf b al:Nat)])∧Later w w':=by
 have hbl:b.length=32:=by rw[←hb];exact Qaq (by omega)
 have hall:al.length=32:=by rw[←hal];exact Qaq (by omega)
 have hM:=hid (fun (w:World) g h1 h2=>QhF (some ⟨g,96,none⟩) (some ⟨g,128,none⟩) 32 32 32 32 b al w h1 h2 (by omega) (by omega))
 have hml:=QaT b al
 generalize Qbe b al=M at *
 generalize Qbf b al=e9 at *
 have C1:=QaW w 170 (x.map W8)
 have C2:Bag w ((w.alloc (.cells (x.map W8).toArray 170)).alloc (.cells (QCC 32 (Value.int .u8 0)).toArray 25)) [(w.heap.size+1,25,QCC 32 (Value.int .u8 0)),(w.heap.size,170,x.map W8)]:=
  C1.add (Qaa _ _) (by simp) (by omega) (Blk.new' _ _ _ (by simp))
 clear C1
 go_enter Tryz.func96,Tryz.ntmps96
 go_wp2_with fail
 generalize hW:(w.alloc _).alloc _=w0
 replace C2:Bag w w0 [(w.heap.size+1,25,QCC 32 (Value.int .u8 0)),(w.heap.size,170,x.map W8)]:=by rw[←hW];exact C2
 clear hW
 refine Qag [([0,1,2,3,4],5)] [6,7] [8,9] (by as_aux_lemma=>kernel_rfl) (by as_aux_lemma=>kernel_rfl) (by intro _ _ d _ _ h;cases d<;>exact h) ?_
 simp only[Qah,pick,QCD,QCE,QCG,QCI,QCH]
 repeat (go_big_quiet_step (fail))
 refine wpQuiet_nil ?_
 go_wp2_with fail
 (with_reducible refine (hM.out _ _ (QbR (C2.drew.nth 1 rfl) hb hbl) (QbR (C2.drew.nth 1 rfl) hal hall)).mono ?_);rintro e w2 ⟨rfl,j2⟩
 go_wp2_with fail
 try refine⟨by first|assumption|exact Qab _|exact Qaa _ _|exact Later.refl _,?_⟩
 try simp only[Qah,pick,QCD,QCE,QCG,QCI,QCH]
 repeat (go_big_quiet_step (fail))
 refine wpQuiet_nil ?_
 go_wp2_with (first
  | (refine QaG rfl rfl _ _ rfl ((C2.drew.later j2).nth 0 rfl) rfl rfl hml rfl ?_;intro w9 hb9 ho9)
  | fail)
 exact bodyPost_ret (Qai rfl _ _ _ _ _ _ hb9 rfl Tryz.underlying25 rfl (by rw[QCF,hml];exact Qba)) rfl ⟨rfl,((C2.drew.later j2).write 0 rfl ho9 hb9).lat⟩
def Qks (al s:List UInt8):List UInt8:=k4 s++(al++s)
theorem Qha (al s:List UInt8) (h:al.length=32) (hs:s.length=32):(Qks al s).length=192:=by simp[Qks,Qh0,h,hs]
theorem QmI (al s:List UInt8) (h:al.length=32):subB (Qks al s) 128 32=al:=by rw[Qks,QbQ _ _ _ _ _ (Qh0 s) h]
theorem Qm6 (al s:List UInt8):subB (Qks al s) 96 32=derB s Qb8:=by
 rw[Qks,k4,show derB s sMac++(derB s Qeq++(derB s sPay++derB s Qb8))++(al++s)=(derB s sMac++(derB s Qeq++derB s sPay))++(derB s Qb8++(al++s)) by simp only[QCU],
  QbQ _ _ _ _ _ (by simp[QaB]) (QaB _ _)]
def Qc6 (ks us:List UInt8):List UInt8:=if Qbf ks us=0 then Qks us (Qbe ks us) else QCC 192 0
theorem Qhh (ks us:List UInt8):(Qc6 ks us).length=192:=by
 unfold Qc6
 split
 ·rename_i h
  exact Qha _ _ (Ql3 h).2 (QaT _ _)
 ·exact QCS
theorem Qx8:Tryz.zeroCells170.toList.length=192:=by kernel_rfl
set_option maxRecDepth 100000 in
set_option maxHeartbeats 4000000 in
theorem Qua (A B:Option Addr) (n c m d:Nat) (ks us:List UInt8) (w:World) (hk:RdB w A n ks) (hu:RdB w B m us) (hn:n≤140737488355328) (hm:m≤140737488355328):
 Calls Tryz.prog 52 #[.slice A n c,.slice B m d] w fun e w'=>e= .returned (.tuple #[.agg ((Qc6 ks us).map W8).toArray,.int .i64 (Qbf ks us:Nat)])∧Later w w':=by
 have hkl:=hk.len
 have hul:=hu.len
 have B0:=QaW w 170 Tryz.zeroCells170.toList
 have hz0:=Qx8
 have hM:=hid (fun (w:World) A B c d h1 h2=>QhF A B n c m d ks us w h1 h2 hn hm)
 have hml:=QaT ks us
 have hP1:=hid (fun (h:Qbf ks us=0)=>show Qc6 ks us=Qks us (Qbe ks us) by rw[Qc6,if_pos h])
 have hP2:=hid (fun (h: ¬Qbf ks us=0)=>show Qc6 ks us=QCC 192 0 by rw[Qc6,if_neg h])
 have hlen:=hid (fun (h:Qbf ks us=0)=>(Ql3 h).2)
 have hPl:=Qhh ks us
 generalize Qc6 ks us=PL at *
 generalize Qbe ks us=M at *
 generalize Qbf ks us=e9 at *
 by_cases he:e9=0
 ·have hP:=hP1.out he
  have hul2:=hlen.out he
  have hS:=hid (fun w=>Qje us M hul2 hml w)
  rw[show k4 M++(us++M)=PL from hP.symm]at hS
  obtain rfl:m=32:=by omega
  subst he
  clear hP1 hP2 hlen hP
  have hput:putB (QCC 32 (0:UInt8)) 0 us=us:=Qn4 _ _ (by simp[hul2])
  have hz32:(QCC 32 (0:UInt8)).length=32:=by simp
  have hzm:(QCC 32 (Value.int .u8 0))=(QCC 32 (0:UInt8)).map W8:=by rw[QDi];rfl
  generalize QCC 32 (0:UInt8)=Z at *
  have HP:=hid hput
  have HZ:=hid hzm
  clear hput hzm
  go_enter Tryz.func52,Tryz.ntmps52
  go_wp2_with fail
  generalize hW:w.alloc _=w0
  replace B0:Bag w w0 [(w.heap.size,170,Tryz.zeroCells170.toList)]:=by rw[←hW];exact B0
  clear hW
  (with_reducible refine (hM.out _ _ _ _ _ (hk.later B0.lat) (hu.later B0.lat)).mono ?_);rintro e w1 ⟨rfl,j1⟩
  go_wp2_with (first
   | (refine QaG rfl rfl _ _ rfl (Blk.new w1 _ (QCC 32 (.int .u8 0))) rfl rfl hml rfl ?_;intro w2 hb2 ho2
      have B1:=B0.push (j1.trans (Qaa w1 _)) j1.size ho2 hb2
      have B2:=B1.add (Qaa w2 (.cells (QCC 32 (Value.int .u8 0)).toArray 25)) (k:=w2.heap.size) (by have h1:=(B1.nth 0 rfl).lt;have h2:=(B1.nth 1 rfl).lt;simp;omega) B1.lat.size ((Blk.new w2 _ (QCC 32 (.int .u8 0))).cast HZ.out))
   | (refine Qlc 0 32 rfl _ _ _ _ rfl 5 Tryz.underlying22 Qbt (B2.nth 0 rfl) (hu.later B2.lat) rfl rfl (by omega) ?_;intro w3 hb3 ho3
      rw[HP.out]at hb3
      have B3:=B2.write 0 rfl ho3 hb3)
   | (refine QeM rfl _ rfl (B3.nth 0 rfl) hul2 rfl ?_)
   | (refine QeM rfl _ rfl (B3.nth 1 rfl) hml rfl ?_)
   | fail)
  (with_reducible refine (hS.out _).mono ?_);rintro e w4 ⟨rfl,j4⟩
  go_wp2_with (first
   | (refine QeC rfl rfl _ _ rfl ((B3.later j4).nth 2 rfl) rfl rfl hPl hz0 ?_;intro w9 hb9 ho9)
   | fail)
  exact bodyPost_ret (Qai rfl _ _ _ _ _ _ hb9 rfl Tryz.underlying170 rfl (by rw[QCF,hPl];exact Qis)) rfl ⟨rfl,((B3.later j4).write 2 rfl ho9 hb9).lat⟩
 ·have hP:=hP2.out he
  have hb0:=QmQ
  rw[←hP]at hb0
  have hne:((e9:Int) != 0)=true:=by simp;omega
  clear hP1 hP2 hlen hP
  go_enter Tryz.func52,Tryz.ntmps52
  go_wp2_with fail
  generalize hW:w.alloc _=w0
  replace B0:Bag w w0 [(w.heap.size,170,Tryz.zeroCells170.toList)]:=by rw[←hW];exact B0
  clear hW
  (with_reducible refine (hM.out _ _ _ _ _ (hk.later B0.lat) (hu.later B0.lat)).mono ?_);rintro e w1 ⟨rfl,j1⟩
  go_wp2_with (first
   | (refine QaG rfl rfl _ _ rfl (Blk.new w1 _ (QCC 32 (.int .u8 0))) rfl rfl hml rfl ?_;intro w2 hb2 ho2
      have B1:=B0.push (j1.trans (Qaa w1 _)) j1.size ho2 hb2)
   | (refine Qam rfl 170 _ rfl (PL.map W8) ?hb ?_;(case hb=>simp only[QCT,QC3];exact hb0))
   | (refine QeC rfl rfl _ _ rfl (B1.nth 1 rfl) rfl rfl hPl hz0 ?_;intro w9 hb9 ho9)
   | fail)
  exact bodyPost_ret (Qai rfl _ _ _ _ _ _ hb9 rfl Tryz.underlying170 rfl (by rw[QCF,hPl];exact Qis)) rfl ⟨rfl,(B1.write 1 rfl ho9 hb9).lat⟩
theorem QxA {pre post:List Value} {xs:List UInt8} {off k:Nat} (hp:pre.length=off) (h:k<xs.length) (x:UInt8) (hx:xs[k]?=some x):(pre++xs.map W8++post)[off+k]?=some (W8 x):=by
 rw[QCU,QCR (by omega),show off+k-pre.length=k by omega,QCW (by rw[QCF];exact h),QCY,hx]
 rfl
theorem QwS {pre post:List Value} {xs:List UInt8} {off k:Nat} (hp:pre.length=off) (h:k<xs.length) (x:UInt8):(pre++xs.map W8++post).set (off+k) (W8 x)=pre++(xs.set k x).map W8++post:=by
 rw[QCU,QDc _ _ (by omega),show off+k-pre.length=k by omega,List.set_append_left _ _ (by rw[QCF];exact h),Qci,QCU]
set_option maxRecDepth 100000 in
set_option maxHeartbeats 2000000 in
theorem QnD (g off n c c2:Nat) (t:TypeId) (A:Option Addr) (pre post:List Value) (xs ys:List UInt8) (w:World) (hb:Blk w g t (pre++xs.map W8++post)) (hp:pre.length=off) (hxl:xs.length=n) (hy:RdB w A n ys) (hoff:0<n→Off A g) (hn:n≤1048576):
 Calls Tryz.prog 263 #[.slice (some ⟨g,off,none⟩) n c,.slice A n c2] w fun e w'=>e= .returned (.tuple #[])∧Blk w' g t (pre++(xorB xs ys).map W8++post)∧Only g w w':=by
 have hyl:=hy.len
 have hlen:xs.length=ys.length:=by omega
 have hX:=hid (fun k=>Qhb hlen k)
 have hG:=hid (fun k (h:k<xs.length)=>Qlp hlen h)
 have hS:=hid (fun k (h:k<xs.length)=>Qjg hlen h)
 have hA:=hid (QlF hlen)
 have hN:=hid (QjA xs ys)
 go_enter Tryz.func263,Tryz.ntmps263
 go_wp2_with fail
 go_loopw [8] (fun i wr=>∃k:Nat,k≤n∧i= .int .i64 k∧Blk wr g t (pre++(Qgh xs ys k).map W8++post)∧Only g w wr) (fun i _=>n-(intOf i).toNat)
 case atStart=>exact⟨0,by omega,rfl,by rw[hN.out];exact hb,World.grownBy.refl w _⟩
 case round=>
  clear hb
  obtain⟨k,hk,rfl,hb,ho'⟩:=hrel
  by_cases hlt:k<n
  ·have hy':RdB wr A n ys:=Rd.only hy ho' (fun b o e h=>hoff (by omega) _ e h)
   obtain⟨b2,o2,rfl,hb2,hc2⟩:=RdB.at_ hy' (by omega)
   have c1:=hc2 k hlt
   have hxk:=hX.out k (by omega)
   have d1:=hb.cellD (off+k) (QxA hp (by omega) _ (hG.out k (by omega)))
   have HS:=hid (hS.out k (by omega))
   clear hc2
   generalize xs.getD k 0=x at *
   generalize ys.getD k 0=y at *
   go_wp2_with (first
    | (refine Qad rfl rfl _ _ _ rfl g (off+k) _ _ hb rfl (by simp only[QCM,QCF];omega) rfl Qbt ?_;intro v' w5 hv' hb5 ho5;simp[go_sem]at hv';subst hv')
    | fail)
   rw[QwS hp (by omega),HS.out]at hb5
   go_roundw
   case rel=>exact⟨k+1,by omega,by go_num,hb5,ho'.trans ho5⟩
   case measure=>simp[intOf];omega
  ·obtain rfl:n=k:=by omega
   rw[←hxl,hA.out]at hb
   go_wp2_with fail
   exact bodyPost_end (results_none rfl _ _ _) rfl ⟨rfl,hb,ho'⟩
theorem Qvh (g off n c c2:Nat) (t:TypeId) (A:Option Addr) (bs ys:List UInt8) (rest:List Value) (w:World) (hb:Blk w g t (bs.map W8++rest)) (hbl:bs.length=n) (h32:32≤n) (hoff:off=32∨(off=0∧n=32)) (hy:RdB w A (n-32) ys) (hA:0<n-32→Off A g) (hn:n≤1048576):
 Calls Tryz.prog 263 #[.slice (some ⟨g,off,none⟩) (n-32) c,.slice A (n-32) c2] w fun e w'=>e= .returned (.tuple #[])∧Blk w' g t ((bs.take 32++xorB (bs.drop 32) ys).map W8++rest)∧Only g w w':=by
 have e0:bs.map W8++rest=(bs.take 32).map W8++(bs.drop 32).map W8++rest:=by rw[←QDq,QDa]
 rcases hoff with rfl|⟨rfl,rfl⟩
 ·rw[e0]at hb
  refine (QnD g 32 (n-32) c c2 t A _ rest (bs.drop 32) ys w hb (by rw[QCF,QC5];omega) (by rw[QC6];omega) hy hA (by omega)).mono ?_
  rintro e w' ⟨he,hb',ho⟩
  exact⟨he,by rw[QDq];exact hb',ho⟩
 ·have hd:bs.drop 32=[]:=QDk (by rw[QC6];omega)
  have hyn:ys=[]:=QDk hy.len
  refine (QnD g 0 0 c c2 t A [] (bs.map W8++rest) [] ys w hb rfl rfl hy hA (by omega)).mono ?_
  rintro e w' ⟨he,hb',ho⟩
  refine⟨he,?_,ho⟩
  subst hyn
  rw[hd,show xorB [] []=[] from rfl,QDf,QCQ (by omega)]
  exact hb'
def Qd3 (K:List UInt8) (r:Nat) (bs:List UInt8):List UInt8:=
 if r=2∨r=4 then xorB (bs.take 32) (QbF K (bs.drop 32))++bs.drop 32 else bs.take 32++xorB (bs.drop 32) (chaS (xorB K (bs.take 32)) (bs.length-32))
theorem Qfd (K:List UInt8) (r:Nat) (bs:List UInt8) (h:32≤bs.length):(Qd3 K r bs).length=bs.length:=by
 unfold Qd3
 split
 ·rw[QCM,QaX (by rw[QaK,QC5];omega),QaK,QC6]
  omega
 ·rw[QCM,QaX (by rw[Qaz,QC6]),Qaz,QC5]
  omega
theorem QnT (K:List UInt8) (r:Nat) (bs:List UInt8) (h:32≤bs.length):Qd3 K r (Qd3 K r bs)=bs:=by
 by_cases hr:r=2∨r=4
 ·have l1:(bs.take 32).length=(QbF K (bs.drop 32)).length:=by rw[QaK,QC5];omega
  have l2:(xorB (bs.take 32) (QbF K (bs.drop 32))).length=32:=by rw[QaX l1,QaK]
  rw[Qd3,if_pos hr,Qd3,if_pos hr,QDx l2,QDj l2,Qee l1,QDa]
 ·have l0:(bs.take 32).length=32:=by rw[QC5];omega
  have l1:(bs.drop 32).length=(chaS (xorB K (bs.take 32)) (bs.length-32)).length:=by rw[Qaz,QC6]
  have l2:(bs.take 32++xorB (bs.drop 32) (chaS (xorB K (bs.take 32)) (bs.length-32))).length=bs.length:=by
   have:=Qfd K r bs h
   rwa [Qd3,if_neg hr]at this
  rw[Qd3,if_neg hr,Qd3,if_neg hr,l2,QDx l0,QDj l0,Qee l1,QDa]
theorem Qr3:(Tryz.prog.info? 25).map (·.size)=some 32:=by kernel_rfl
theorem QkK {w:World} {g:Nat} {t:TypeId} {bs:List UInt8} {n:Nat} (h:Blk w g t (bs.map W8)) (hn:bs.length=n):RdB w (some ⟨g,0,none⟩) n bs:=h.rd (by rw[QCF,hn])
set_option maxRecDepth 100000 in
set_option maxHeartbeats 4000000 in
theorem Qux (g n c:Nat) (K bs:List UInt8) (r:Nat) (rest:List Value) (w:World) (hb:Blk w g 5 (bs.map W8++rest)) (hbl:bs.length=n) (h32:32≤n) (hn:n≤4096) (hc:n≤c) (hK:K.length=32) (h1:1≤r) (h4:r≤4):
 Calls Tryz.prog 171 #[.slice (some ⟨g,0,none⟩) n c,.agg (K.map W8).toArray,.int .i64 r] w fun e w'=>e= .returned (.tuple #[])∧Blk w' g 5 ((Qd3 K r bs).map W8++rest)∧Only g w w':=by
 have hcl:∀W,(Instr.sliceAt 22 (.slice (some ⟨g,0,none⟩) n c) none (some (.int .i64 32)) none).run Tryz.prog W= .ok (.slice (some ⟨g,0,none⟩) 32 c) W:=fun W=>QrI (some ⟨g,0,none⟩) n c .i64 32 (by omega) W
 obtain⟨off,hoff,hcr⟩:∃off,(off=32∨(off=0∧n=32))∧∀W,(Instr.sliceAt 22 (.slice (some ⟨g,0,none⟩) n c) (some (.int .i64 32)) none none).run Tryz.prog W= .ok (.slice (some ⟨g,off,none⟩) (n-32) (c-32)) W:=by
  have h:=fun W=>QhW (some ⟨g,0,none⟩) n c .i64 32 h32 W
  unfold cutA at h
  by_cases hc32:c=32
  ·rw[if_pos hc32]at h
   exact⟨0,.inr ⟨rfl,by omega⟩,h⟩
  ·rw[if_neg hc32]at h
   exact⟨32,.inl rfl,h⟩
 have hrdR:∀w',Blk w' g 5 (bs.map W8++rest)→RdB w' (some ⟨g,off,none⟩) (n-32) (bs.drop 32):=fun w' hb'=>by
  rcases hoff with rfl|⟨rfl,rfl⟩
  ·have:=(Qft hb' hbl).cut (k:=32) (c:=n+33) h32 (by omega)
   rw[cutA,if_neg (by omega)]at this
   exact this
  ·rw[QDk (show (bs.drop 32).length=0 by rw[QC6];omega)]
   exact⟨rfl,fun h=>absurd h (by omega)⟩
 have hrdR:=hid hrdR
 have hm1:=hid (fun g off n c c2 t A pre post xs ys w hb hp hxl hy ho hn=>QnD g off n c c2 t A pre post xs ys w hb hp hxl hy ho hn)
 have hm2:=hid (fun c c2 A ys w hb hy hA=>Qvh g off n c c2 5 A bs ys rest w hb hbl h32 hoff hy hA (by omega))
 replace hoff:=hid hoff
 have htl:(bs.take 32).length=32:=by rw[QC5];omega
 have hdl:(bs.drop 32).length=n-32:=by rw[QC6];omega
 by_cases hr:r=2∨r=4
 ·have hT:=hid (show Qd3 K r bs=xorB (bs.take 32) (QbF K (bs.drop 32))++bs.drop 32 by rw[Qd3,if_pos hr])
  have hG:=QaK K (bs.drop 32)
  have hTag:=hid (fun A B c d w h1 hc h2=>Qkf A B 32 c 1 d K [bs.drop 32] w h1 hc (by omega) h2 (by omega) (by rw[QbK,hdl];omega))
  rw[QbK]at hTag
  generalize Qd3 K r bs=TB at *
  generalize QbF K (bs.drop 32)=G at *
  rcases hr with rfl|rfl
  all_goals
   go_enter Tryz.func171,Tryz.ntmps171
   go_wp2_with fail
   have B1:=QaW w 25 (K.map W8)
   generalize w.alloc (.cells (K.map W8).toArray 25)=w1 at *
   refine Qag [] [0,1,2,3,4,5] [] (by as_aux_lemma=>kernel_rfl) (by as_aux_lemma=>kernel_rfl) (by intro _ _ d _ _ h;cases d<;>exact h) ?_
   simp only[Qah,pick,QCD,QCE,QCG,QCI,QCH]
   repeat (go_big_quiet_step (fail))
   refine wpQuiet_nil ?_
   go_wp2_with fail
   have B2:=B1.later ((Qaa w1 (.cells #[.slice (some ⟨g,off,none⟩) (n-32) (c-32)] 22)).trans (Qab _))
   have hb2:=hb.later B2.lat
   have hpp:=QgS (Blk.new w1 22 [.slice (some ⟨g,off,none⟩) (n-32) (c-32)]).drew (Qdy (c:=c-32) (hrdR.out _ hb2) (by omega))
   (with_reducible refine (hTag.out _ _ _ _ _ (QkK (B2.nth 0 rfl) hK) (QCP _) hpp).mono ?_);rintro e w3 ⟨rfl,j3⟩
   go_wp2_with (first
    | (refine QgT 32 rfl rfl _ _ rfl (Blk.new w3 _ (QCC 32 (.int .u8 0))) rfl rfl Qr3 hG rfl ?_;intro w4 hb4 ho4)
    | fail)
   have L4:=B2.lat.trans ((j3.trans (Qaa w3 _)).only ho4 j3.size)
   have hb5:=hb.later L4
   rw[show bs.map W8++rest=[]++(bs.take 32).map W8++((bs.drop 32).map W8++rest) by rw[QCH,←QCU,←QDq,QDa]]at hb5
   have hgl:=hb.lt
   have hgs:=(B2.lat.trans j3).size
   (refine (hm1.out g 0 32 _ _ _ _ _ _ _ _ _ hb5 rfl htl (QkK hb4 hG) (fun _ ad e=>by cases e;show w3.heap.size≠g;omega) (by omega)).mono ?_);rintro e w5 ⟨rfl,hb6,ho6⟩
   rw[QCH,←QCU,←QDq,←hT.out]at hb6
   go_wp2_with fail
   (try simp only[Exit.inBlock,Exit.then])
   exact bodyPost_ret (results_none rfl _ _ _) rfl ⟨rfl,hb6,L4.thenOnly ho6⟩
 ·have hT:=hid (show Qd3 K r bs=bs.take 32++xorB (bs.drop 32) (chaS (xorB K (bs.take 32)) (n-32)) by rw[Qd3,if_neg hr,hbl])
  have hr':r=1∨r=3:=by omega
  clear hr
  have hxl:(xorB K (bs.take 32)).length=32:=by rw[QaX (by omega),htl]
  have hSt:=hid (fun A c w h=>Qi6 A c (n-32) (xorB K (bs.take 32)) w h (by omega))
  generalize Qd3 K r bs=TB at *
  generalize hXe:xorB K (bs.take 32)=X at *
  replace hXe:=hid hXe
  generalize chaS X (n-32)=ST at *
  rcases hr' with rfl|rfl
  all_goals
   go_enter Tryz.func171,Tryz.ntmps171
   go_wp2_with fail
   have B1:=(QaW w 25 (K.map W8)).drew
   generalize w.alloc (.cells (K.map W8).toArray 25)=w1 at *
   refine Qag [] [0,1,2,3,4,5] [] (by as_aux_lemma=>kernel_rfl) (by as_aux_lemma=>kernel_rfl) (by intro _ _ d _ _ h;cases d<;>exact h) ?_
   simp only[Qah,pick,QCD,QCE,QCG,QCI,QCH]
   repeat (go_big_quiet_step (fail))
   refine wpQuiet_nil ?_
   go_wp2_with fail
   have hb1:=hb.later B1.lat
   have hgl:=hb.lt
   have hk1:=B1.nth 0 rfl
   (refine (hm1.out w.heap.size 0 32 _ _ _ _ [] [] K (bs.take 32) _ (by rw[QCH,QDf];exact hk1) rfl hK ((Qft hb1 hbl).take h32) (fun _ ad e=>by cases e;show g≠w.heap.size;omega) (by omega)).mono ?_);rintro e w5 ⟨rfl,hk2,ho2⟩
   rw[QCH,QDf,hXe.out]at hk2
   have B2:=B1.write 0 rfl ho2 hk2
   have hb2:=hb.later B2.lat
   go_wp2_with fail
   (refine (hSt.out _ _ _ (QkK hk2 hxl)).mono ?_);rintro e w6 ⟨A6,c6,rfl,hown6,j6⟩
   go_wp2_with fail
   have hgs:=B2.lat.size
   (refine (hm2.out _ _ _ ST _ (hb2.later j6) hown6.rd (fun _ ad e=>by subst e;have:=(hown6.lt ad.block rfl).1;omega)).mono ?_);rintro e w7 ⟨rfl,hb7,ho7⟩
   rw[←hT.out]at hb7
   go_wp2_with fail
   exact bodyPost_end (results_none rfl _ _ _) rfl ⟨rfl,hb7,(B2.lat.trans j6).thenOnly ho7⟩
abbrev lab1:ByteArray:=⟨#[119,105,100,101,49]⟩
abbrev lab2:ByteArray:=⟨#[119,105,100,101,50]⟩
abbrev lab3:ByteArray:=⟨#[119,105,100,101,51]⟩
abbrev lab4:ByteArray:=⟨#[119,105,100,101,52]⟩
def labW (r:Int):ByteArray:=if r=1 then lab1 else if r=2 then lab2 else if r=3 then lab3 else lab4
def okR (rs:List Int):Prop:=∀r∈rs,1≤r∧r≤4
instance (rs:List Int):Decidable (okR rs):=by unfold okR;infer_instance
def fitW (key bs:List UInt8):Prop:=key.length=32∧32≤bs.length∧bs.length≤4096
instance (key bs:List UInt8):Decidable (fitW key bs):=by unfold fitW;infer_instance
def Qdp (key:List UInt8) (rs:List Int) (bs:List UInt8):List UInt8:=rs.foldl (fun b r=>Qd3 (derB key (labW r)) r.toNat b) bs
theorem QbX (key:List UInt8):∀(rs:List Int) (bs:List UInt8),32≤bs.length→(Qdp key rs bs).length=bs.length
 | [],_,_=>rfl
 | r :: rs,bs,h=>by
   show (Qdp key rs (Qd3 _ _ bs)).length=_
   have:=Qfd (derB key (labW r)) r.toNat bs h
   rw[QbX key rs _ (by omega),this]
theorem Qg9 (key:List UInt8) (rs rs':List Int) (bs:List UInt8):Qdp key (rs++rs') bs=Qdp key rs' (Qdp key rs bs):=by rw[Qdp,List.foldl_append];rfl
theorem Qi4 (key:List UInt8):∀(rs:List Int) (bs:List UInt8),32≤bs.length→Qdp key rs.reverse (Qdp key rs bs)=bs
 | [],_,_=>rfl
 | r :: rs,bs,h=>by
   have hl:=Qfd (derB key (labW r)) r.toNat bs h
   rw[List.reverse_cons,Qg9]
   show Qdp key [r] (Qdp key rs.reverse (Qdp key rs (Qd3 (derB key (labW r)) r.toNat bs)))=bs
   rw[Qi4 key rs _ (by omega)]
   exact QnT _ _ _ h
def QdF (key bs:List UInt8) (rs:List Int):Nat:=if okR rs then (if fitW key bs then 0 else 2) else 1
def Qb9 (key bs:List UInt8) (rs:List Int):List UInt8:=if okR rs then (if fitW key bs then Qdp key rs bs else []) else []
theorem Qf9 (B:Option Addr) (m d:Nat) (w:World):
 Calls Tryz.prog 249 #[.slice B m d] w fun e w'=>e= .returned (.bool (decide (32≤m∧m≤4096)))∧w'=w:=by
 by_cases h1:32≤m
 ·by_cases h2:m≤4096
  ·have e1:(32:Int)≤(m:Int):=by omega
   have e2:(m:Int)≤4096:=by omega
   rw[decide_eq_true (show 32≤m∧m≤4096 from ⟨h1,h2⟩)]
   go_enter Tryz.func249,Tryz.ntmps249
   go_wp2
   go_ret
   exact⟨rfl,rfl⟩
  ·have e1:(32:Int)≤(m:Int):=by omega
   have e2: ¬(m:Int)≤4096:=by omega
   rw[decide_eq_false (show ¬(32≤m∧m≤4096) from fun h=>h2 h.2)]
   go_enter Tryz.func249,Tryz.ntmps249
   go_wp2
   go_ret
   exact⟨rfl,rfl⟩
 ·have e1: ¬(32:Int)≤(m:Int):=by omega
  rw[decide_eq_false (show ¬(32≤m∧m≤4096) from fun h=>h1 h.1)]
  go_enter Tryz.func249,Tryz.ntmps249
  go_wp2
  go_ret
  exact⟨rfl,rfl⟩
theorem QsZ (A B:Option Addr) (n c m d:Nat) (w:World):
 Calls Tryz.prog 169 #[.slice A n c,.slice B m d] w fun e w'=>e= .returned (.bool (decide (n=32∧32≤m∧m≤4096)))∧w'=w:=by
 have hf:=hid (Qf9 B m d)
 by_cases h0:n=32
 ·subst h0
  rw[show decide (32=32∧32≤m∧m≤4096)=decide (32≤m∧m≤4096) by simp]
  go_enter Tryz.func169,Tryz.ntmps169
  go_wp2_with fail
  (with_reducible refine (hf.out _).mono ?_);rintro e w1 ⟨rfl,rfl⟩
  go_wp2_with fail
  go_ret
  exact⟨by simp,rfl⟩
 ·have e1:((n:Int)==32)=false:=by simp;omega
  rw[decide_eq_false (show ¬(n=32∧32≤m∧m≤4096) from fun h=>h0 h.1)]
  go_enter Tryz.func169,Tryz.ntmps169
  go_wp2_with fail
  go_ret
  exact⟨by simp,rfl⟩
theorem QqC {key bs:List UInt8} {rs:List Int} (h: ¬okR rs):Qb9 key bs rs=[]:=by rw[Qb9,if_neg h]
theorem QqP {key bs:List UInt8} {rs:List Int} (h: ¬okR rs):QdF key bs rs=1:=by rw[QdF,if_neg h]
theorem Qmx {key bs:List UInt8} {rs:List Int} (h:okR rs) (h2: ¬fitW key bs):Qb9 key bs rs=[]:=by rw[Qb9,if_pos h,if_neg h2]
theorem Qnu {key bs:List UInt8} {rs:List Int} (h:okR rs) (h2: ¬fitW key bs):QdF key bs rs=2:=by rw[QdF,if_pos h,if_neg h2]
theorem Qej {key bs:List UInt8} {rs:List Int} (h:okR rs) (h2:fitW key bs):Qb9 key bs rs=Qdp key rs bs:=by rw[Qb9,if_pos h,if_pos h2]
theorem Qeg {key bs:List UInt8} {rs:List Int} (h:okR rs) (h2:fitW key bs):QdF key bs rs=0:=by rw[QdF,if_pos h,if_pos h2]
def intV (r:Int):Value:=.int .i64 r
theorem Qzn {w:World} {C:Option Addr} {k:Nat} {rs:List Int} (h:Rd w C k (rs.map intV)) {j:Nat} (hj:j<k):∃b o,C=some ⟨b,o,none⟩∧b<w.heap.size∧∀w',Later w w'→w'.cell? ⟨b,o+j,none⟩=some (.int .i64 (rs.getD j 0)):=by
 have hl:rs.length=k:=by have:=h.1;rwa [QCF]at this
 obtain⟨b,o,e,hb,hc⟩:=h.2 (by omega)
 refine⟨b,o,e,hb,fun w' hl'=>(hl'.below.cell (p:=⟨b,o+j,none⟩) hb).trans (hc j _ ?_)⟩
 rw[QCY,QCJ (show j<rs.length by omega),QCK,QCJ (show j<rs.length by omega)]
 rfl
theorem QpV (key:List UInt8) (rs:List Int) (bs:List UInt8) (j:Nat) (h:j<rs.length):Qdp key (rs.take (j+1)) bs=Qd3 (derB key (labW (rs.getD j 0))) (rs.getD j 0).toNat (Qdp key (rs.take j) bs):=by
 rw[QDd h,Qg9,QCK,QCJ h]
 rfl
def QpA (s:List UInt8):List UInt8:=Qdj s [lab1,lab2,lab3,lab4] 4
theorem QqX (s:List UInt8) (r:Int) (h1:1≤r) (h4:r≤4):(QpA s).drop ((r.toNat-1)*32)=derB s (labW r)++((QpA s).drop ((r.toNat-1)*32)).drop 32:=by
 have l1:=QaB s lab1
 have l2:=QaB s lab2
 have l3:=QaB s lab3
 have l4:=QaB s lab4
 have e:QpA s=derB s lab1++(derB s lab2++(derB s lab3++derB s lab4)):=by simp[QpA,Qdj]
 have hr:r=1∨r=2∨r=3∨r=4:=by omega
 rw[e]
 generalize hd1:derB s lab1=d1 at *
 generalize hd2:derB s lab2=d2 at *
 generalize hd3:derB s lab3=d3 at *
 generalize hd4:derB s lab4=d4 at *
 rcases hr with rfl|rfl|rfl|rfl
 ·show (d1++_).drop 0=derB s lab1++((d1++_).drop 0).drop 32
  rw[hd1,QD7,QDj l1]
 ·show (d1++_).drop 32=derB s lab2++((d1++_).drop 32).drop 32
  rw[hd2,QDj l1,QDj l2]
 ·show (d1++_).drop 64=derB s lab3++((d1++_).drop 64).drop 32
  rw[hd3,show (64:Nat)=32+32 from rfl,←QD5,QDj l1,QDj l2,QDj l3]
 ·show (d1++_).drop 96=derB s lab4++((d1++_).drop 96).drop 32
  rw[hd4,show (96:Nat)=32+(32+32) from rfl,←QD5,←QD5,QDj l1,QDj l2,QDj l3]
  have:d4.drop 32=[]:=QEc (by omega)
  rw[this,QDf]
theorem Qup {w:World} {base n c:Nat} {A:Option Addr} {bs:List UInt8} (h:OwnB w base A n c bs):c≤maxLen:=by
 rcases h.2 with ⟨hv,_⟩|⟨g2,cap,cur,hv,_,_,_,hm,_⟩
 ·cases hv
  exact Nat.zero_le _
 ·cases hv
  exact hm
theorem QxI (g n c:Nat) (K bs:List UInt8) (r:Nat) (i:Int) (hi:i=(r:Int)) (rest:List Value) (w:World) (hb:Blk w g 5 (bs.map W8++rest)) (hbl:bs.length=n) (h32:32≤n) (hn:n≤4096) (hc:n≤c) (hK:K.length=32) (h1:1≤r) (h4:r≤4):
 Calls Tryz.prog 171 #[.slice (some ⟨g,0,none⟩) n c,.agg (K.map W8).toArray,.int .i64 i] w fun e w'=>e= .returned (.tuple #[])∧Blk w' g 5 ((Qd3 K r bs).map W8++rest)∧Only g w w':=by
 subst hi
 exact Qux g n c K bs r rest w hb hbl h32 hn hc hK h1 h4
theorem Qt8 {w:World} {g:Nat} {t:TypeId} {ks:List UInt8} (h:Blk w g t (ks.map W8)) {q:Nat} {K r:List UInt8} (hd:ks.drop (q*32)=K++r) {j:Nat} {v:Value} (hv:(K.map W8)[j]?=some v):w.cell? ⟨g,q*32+j,none⟩=some v:=by
 refine h.cellD _ ?_
 rw[QCY,QED]at hv ⊢
 obtain⟨x,hx,rfl⟩:=hv
 refine⟨x,?_,rfl⟩
 rw[←QDE,hd,QCW (QCV.1 hx).1]
 exact hx
set_option maxRecDepth 100000 in
set_option maxHeartbeats 8000000 in
theorem Qh7 (A B C:Option Addr) (n c m d k e0:Nat) (key bs:List UInt8) (rs:List Int) (w:World) (hk:RdB w A n key) (hc:n≤c) (hb:RdB w B m bs) (hd:m≤d) (hr:Rd w C k (rs.map intV)) (hn:n≤2097152) (hm:m≤2097152) (hk2:k≤2097152):
 Calls Tryz.prog 106 #[.slice A n c,.slice B m d,.slice C k e0] w fun e w'=>Later w w'∧∃A' c',e= .returned (.tuple #[.slice A' (Qb9 key bs rs).length c',.int .i64 (QdF key bs rs:Nat)])∧OwnB w' w.heap.size A' (Qb9 key bs rs).length c' (Qb9 key bs rs):=by
 have hkl:=hk.len
 have hbl:=hb.len
 have hrl:rs.length=k:=by have:=hr.1;rwa [QCF]at this
 have hbad:=hid (fun h=>And.intro (@QqC key bs rs h) (@QqP key bs rs h))
 have hunf:=hid (fun h h2=>And.intro (@Qmx key bs rs h h2) (@Qnu key bs rs h h2))
 have hfit:=hid (fun h h2=>And.intro (@Qej key bs rs h h2) (@Qeg key bs rs h h2))
 have hat:=hid (fun j (hj:j<k)=>Qzn hr hj)
 have hff:=hid (QsZ A B n c m d)
 generalize Qb9 key bs rs=WB at *
 generalize QdF key bs rs=WE at *
 go_enter Tryz.func106,Tryz.ntmps106
 go_wp2_with fail
 go_loopw [16] (fun i wr=>∃j:Nat,j≤k∧i= .int .i64 j∧wr=w∧Hid (∀ t,t<j→1≤rs.getD t 0∧rs.getD t 0≤4)) (fun i _=>k-(intOf i).toNat)
 case atStart=>exact⟨0,by omega,rfl,rfl,hid (fun t h=>by omega)⟩
 case round=>
  obtain⟨j,hj,rfl,rfl,hall⟩:=hrel
  by_cases hlt:j<k
  ·obtain⟨b,o,rfl,hbb,hcell⟩:=hat.out j hlt
   have c1:=hcell wr (Later.refl _)
   clear hcell
   have hmem:rs.getD j 0∈rs:=by rw[QCK,QCJ (show j<rs.length by omega)];exact QD0 _
   have hbd: ¬(1≤rs.getD j 0∧rs.getD j 0≤4)→Hid (WB=[]∧WE=1):=fun h=>hid (hbad.out (fun hok=>h (hok _ hmem)))
   have hst:1≤rs.getD j 0→rs.getD j 0≤4→Hid (∀ t,t<j+1→1≤rs.getD t 0∧rs.getD t 0≤4):=fun h1 h2=>hid (fun t ht=>by
    by_cases e:t=j
    ·subst e;exact⟨h1,h2⟩
    ·exact hall.out t (by omega))
   clear hmem
   generalize rs.getD j 0=r at *
   by_cases h1:r<1
   ·have hB:=hbd (by omega)
    clear hbd hst
    go_wp2_with fail
    go_ret2
    refine⟨Later.refl _,none,0,?_,?_⟩
    ·rw[hB.out.1,hB.out.2];rfl
    ·rw[hB.out.1];exact Qcq _ _ _
   ·by_cases h2:4<r
    ·have hB:=hbd (by omega)
     clear hbd hst
     go_wp2_with fail
     go_ret2
     refine⟨Later.refl _,none,0,?_,?_⟩
     ·rw[hB.out.1,hB.out.2];rfl
     ·rw[hB.out.1];exact Qcq _ _ _
    ·have hS:=hst (by omega) (by omega)
     clear hbd hst
     go_wp2_with fail
     go_roundw
     case rel=>exact⟨j+1,by omega,by go_num,trivial,hS⟩
     case measure=>simp[intOf];omega
  ·obtain rfl:k=j:=by omega
   have hok:okR rs:=fun r hr'=>by
    obtain⟨t,ht⟩:=List.getElem?_of_mem hr'
    have htl:=(QCV.1 ht).1
    have:=hall.out t (by omega)
    rwa [QCK,ht]at this
   clear hbad
   go_wp2_with fail
   (with_reducible refine (hff.out _).mono ?_);rintro e w1 ⟨rfl,rfl⟩
   by_cases hf:n=32∧32≤m∧m≤4096
   ·rw[decide_eq_true hf]
    have hF:=hid (hfit.out hok ⟨by rw[hkl];exact hf.1,by rw[hbl];exact hf.2⟩)
    obtain⟨rfl,hm32,hm4⟩:=hf
    clear hunf hfit
    have hDe:=hid (fun B d w h1 h2=>QjD A B 32 c 4 d key [lab1,lab2,lab3,lab4] w h1 hc (by omega) h2 (by omega) (by omega) (by intro x hx;simp only[QCZ,QC0,or_false]at hx;rcases hx with rfl|rfl|rfl|rfl<;>decide))
    have hKW:=hid (fun r h1 h4=>QqX key r h1 h4)
    have hFt:=hid (fun j h=>QpV key rs bs j h)
    have hFl:=hid (fun rs=>QbX key rs bs (by omega))
    have hDl:=hid (fun r=>QaB key (labW r))
    have hTu:=hid QxI
    have hCj:=hid (fun A c w h=>Qcy A 1 c [bs] w h (by omega) (by rw[QbK];omega))
    rw[QbK,hbl]at hCj
    rw[show Qdj key [lab1,lab2,lab3,lab4] 4=QpA key from rfl]at hDe
    have hF0:=hid (show Qdp key (rs.take 0) bs=bs from rfl)
    go_wp2_with fail
    have J1:=Qaa w1 (.cells #[.string lab1,.string lab2,.string lab3,.string lab4] 9)
    have hst:Strs (w1.alloc (.cells #[.string lab1,.string lab2,.string lab3,.string lab4] 9)) (some ⟨w1.heap.size,0,none⟩) 4 [lab1,lab2,lab3,lab4]:=(Blk.new w1 9 [.string lab1,.string lab2,.string lab3,.string lab4]).rd rfl
    (refine (hDe.out _ _ _ (hk.later J1) hst).mono ?_);rintro e w2 ⟨gK,rfl,hgK,hbK,j2⟩
    go_wp2_with fail
    have J2:=(J1.trans j2).trans (Qaa w2 (.cells #[.slice B m d] 22))
    have hpp:=QgS (Blk.new w2 22 [.slice B m d]) (Qdy (hb.later J2) hd)
    (with_reducible refine (hCj.out _ _ _ hpp).mono ?_);rintro e w3 ⟨A3,c3,rfl,hown3,j3⟩
    have L3:=J2.trans j3
    have hbK3:=hbK.later ((Qaa w2 (.cells #[.slice B m d] 22)).trans j3)
    have hgKw:w1.heap.size≤gK:=QDm J1.size hgK
    replace hown3:=hown3.mono J2.size
    have hmx:=Qup hown3
    obtain⟨gO,rest,rfl,hgO,hbO,hcO,hcc⟩:=Qkm hown3 (by omega)
    replace hcO:=hid hcO
    clear J1 hst j2 J2 hpp j3 hown3 hbK hgK
    go_wp2_with fail
    have hgl:=hbO.lt
    go_loopw [39] (fun i wr=>∃j:Nat,j≤k∧i= .int .i64 j∧Blk wr gO 5 ((Qdp key (rs.take j) bs).map W8++rest)∧Blk wr gK 25 ((QpA key).map W8)∧Later w1 wr) (fun i _=>k-(intOf i).toNat)
    case atStart=>exact⟨0,by omega,rfl,by rw[hF0.out];exact hbO,hbK3,L3⟩
    case round=>
     clear hbO hbK3 L3 hgl
     obtain⟨j,hj,rfl,hbO,hbK,L⟩:=hrel
     by_cases hlt:j<k
     ·obtain⟨b,o,rfl,hbb,hcell⟩:=hat.out j hlt
      have c1:=hcell wr L
      have hrr:=hall.out j hlt
      have HF:=hid (hFt.out j (by omega))
      have hFlj:=hFl.out (rs.take j)
      have hKr:=hKW.out _ hrr.1 hrr.2
      have hDlr:=hDl.out (rs.getD j 0)
      clear hcell
      generalize rs.getD j 0=r at *
      obtain⟨q,rfl⟩:∃q:Nat,r=(q:Int)+1:=⟨(r-1).toNat,by omega⟩
      have hq4:q<4:=by omega
      have hqn:((q:Int)+1).toNat=q+1:=by omega
      rw[hqn]at HF hKr
      rw[Nat.add_sub_cancel]at hKr
      generalize derB key (labW ((q:Int)+1))=Kr at *
      generalize Qdp key (rs.take j) bs=F at *
      replace hKr:=hid hKr
      clear hqn hrr
      go_wp2_with (first
       | (refine QaD rfl 25 _ rfl gK (q*32) (Kr.map W8) ?hc ?hx _ Tryz.underlying25 rfl ?hi ?_;(case hx=>rfl);(case hi=>rw[QCF,hDlr];exact Qr3);(case hc=>intro j v hv;exact Qt8 hbK hKr.out hv))
       | fail)
      (refine (hTu.out gO m c3 Kr F (q+1) _ (by omega) rest _ hbO (by omega) hm32 hm4 hcc hDlr (by omega) (by omega)).mono ?_);rintro e w5 ⟨rfl,hb5,ho5⟩
      go_wp2_with fail
      go_roundw
      case rel=>exact⟨j+1,by omega,by go_num,by rw[HF.out];exact hb5,hbK.only ho5 (hbK.ne_type hbO (by decide)),L.only ho5 hgO⟩
      case measure=>simp[intOf];omega
     ·obtain rfl:k=j:=by omega
      rw[QCQ (by omega)]at hbO
      have hFl':=hFl.out rs
      rw[←hF.out.1]at hbO hFl'
      have hcw:c3=(WB.map W8++rest).length:=by
       rw[hcO.out,QCM,QCM,QCF,QCF]
       omega
      have hWl:WB.length=m:=by omega
      have hWE:=hF.out.2
      have hown:=Qwj hbO hgO (by rw[←hcw];exact hmx)
      rw[←hcw,QCF,hWl]at hown
      go_wp2_with fail
      go_ret2
      exact⟨L,_,_,by rw[hWl,hWE];rfl,by rw[hWl];exact hown⟩
   ·rw[decide_eq_false hf]
    have hB:=hid (hunf.out hok (fun h=>hf ⟨by rw[←hkl];exact h.1,by rw[←hbl];exact h.2⟩))
    clear hunf hfit
    go_wp2_with fail
    go_ret2
    refine⟨Later.refl _,none,0,?_,?_⟩
    ·rw[hB.out.1,hB.out.2];rfl
    ·rw[hB.out.1];exact Qcq _ _ _
def rsS:List Int:=[1,2,3,4]
def rsO:List Int:=[4,3,2,1]
theorem okS:okR rsS:=by decide
theorem okO:okR rsO:=by decide
theorem QpI {key bs:List UInt8} {rs:List Int} (h:QdF key bs rs=0):okR rs∧fitW key bs:=by
 unfold QdF at h
 split at h
 ·split at h
  ·exact⟨by assumption,by assumption⟩
  ·cases h
 ·cases h
theorem Qge {key bs:List UInt8} {rs:List Int} (h:QdF key bs rs=0):(Qb9 key bs rs).length=bs.length∧QdF key (Qb9 key bs rs) rs.reverse=0∧Qb9 key (Qb9 key bs rs) rs.reverse=bs:=by
 obtain⟨hok,hf⟩:=QpI h
 have hl:=QbX key rs bs hf.2.1
 have hok':okR rs.reverse:=fun r hr=>hok r (List.mem_reverse.1 hr)
 have hf':fitW key (Qdp key rs bs):=⟨hf.1,by rw[hl];exact hf.2.1,by rw[hl];exact hf.2.2⟩
 rw[Qej hok hf]
 exact⟨hl,Qeg hok' hf',by rw[Qej hok' hf',Qi4 key rs bs hf.2.1]⟩
set_option maxHeartbeats 1000000 in
theorem Qly (A B:Option Addr) (n c m d:Nat) (key bs:List UInt8) (w:World) (hk:RdB w A n key) (hc:n≤c) (hb:RdB w B m bs) (hd:m≤d) (hn:n≤2097152) (hm:m≤2097152):
 Calls Tryz.prog 51 #[.slice A n c,.slice B m d] w fun e w'=>Later w w'∧∃A' c',e= .returned (.tuple #[.slice A' (Qb9 key bs rsS).length c',.int .i64 (QdF key bs rsS:Nat)])∧OwnB w' w.heap.size A' (Qb9 key bs rsS).length c' (Qb9 key bs rsS):=by
 have h:=hid (fun C e0 w hk hb hr=>Qh7 A B C n c m d 4 e0 key bs rsS w hk hc hb hd hr hn hm (by omega))
 generalize Qb9 key bs rsS=X at *
 generalize QdF key bs rsS=E at *
 go_enter Tryz.func51,Tryz.ntmps51
 go_wp2_with fail
 have J:=Qaa w (.cells #[.int .i64 1,.int .i64 2,.int .i64 3,.int .i64 4] 3)
 (refine (h.out _ _ _ (hk.later J) (hb.later J) ((Blk.new w 3 [.int .i64 1,.int .i64 2,.int .i64 3,.int .i64 4]).rd rfl)).mono ?_);rintro e w1 ⟨j1,A1,c1,rfl,ho1⟩
 go_wp2_with fail
 go_ret2
 exact⟨J.trans j1,A1,c1,rfl,ho1.mono J.size⟩
set_option maxHeartbeats 1000000 in
theorem QkW (A B:Option Addr) (n c m d:Nat) (key bs:List UInt8) (w:World) (hk:RdB w A n key) (hc:n≤c) (hb:RdB w B m bs) (hd:m≤d) (hn:n≤2097152) (hm:m≤2097152):
 Calls Tryz.prog 89 #[.slice A n c,.slice B m d] w fun e w'=>Later w w'∧∃A' c',e= .returned (.tuple #[.slice A' (Qb9 key bs rsO).length c',.int .i64 (QdF key bs rsO:Nat)])∧OwnB w' w.heap.size A' (Qb9 key bs rsO).length c' (Qb9 key bs rsO):=by
 have h:=hid (fun C e0 w hk hb hr=>Qh7 A B C n c m d 4 e0 key bs rsO w hk hc hb hd hr hn hm (by omega))
 generalize Qb9 key bs rsO=X at *
 generalize QdF key bs rsO=E at *
 go_enter Tryz.func89,Tryz.ntmps89
 go_wp2_with fail
 have J:=Qaa w (.cells #[.int .i64 4,.int .i64 3,.int .i64 2,.int .i64 1] 3)
 (refine (h.out _ _ _ (hk.later J) (hb.later J) ((Blk.new w 3 [.int .i64 4,.int .i64 3,.int .i64 2,.int .i64 1]).rd rfl)).mono ?_);rintro e w1 ⟨j1,A1,c1,rfl,ho1⟩
 go_wp2_with fail
 go_ret2
 exact⟨J.trans j1,A1,c1,rfl,ho1.mono J.size⟩
def kMac (s:List UInt8):List UInt8:=subB s 0 32
def kStr (s:List UInt8):List UInt8:=subB s 32 32
def kPay (s:List UInt8):List UInt8:=subB s 64 32
def kBli (s:List UInt8):List UInt8:=subB s 96 32
def kAlp (s:List UInt8):List UInt8:=subB s 128 32
def tagB (key al be:List UInt8):List UInt8:=(QbF key (al++be)).take 16
def Qme (h s:List UInt8):Bool:=decide (tagB (kMac s) (subB h 0 32) (subB h 48 240)=subB h 32 16)
def Qcm (h s:List UInt8):List UInt8:=xorB (subB h 48 240++QCC 48 0) (chaS (kStr s) 288)
def QiZ (s:List UInt8):List UInt8:=Qbe (kBli s) (kAlp s)
def QnG (s:List UInt8):Nat:=Qbf (kBli s) (kAlp s)
def Qhp (h s:List UInt8):Nat:=if Qme h s=false then 6 else if decE ((Qcm h s).take 32)≠0 then 3 else if (decC ((Qcm h s).take 32)).kd=1 then QnG s else 0
def Qkr (h s:List UInt8):Cmd:=if Qhp h s=0 then decC ((Qcm h s).take 32) else cmd0
def QiS (h s:List UInt8):List UInt8:=if Qhp h s=0∧(decC ((Qcm h s).take 32)).kd=1 then QiZ s++(Qcm h s).drop 32 else QCC 288 0
theorem Qgl (h s:List UInt8) (hl:h.length=288):(Qcm h s).length=288:=by
 have h1:(subB h 48 240).length=240:=Qaq (by omega)
 rw[Qcm,QaX (by simp[h1,Qaz]),Qaz]
theorem Qhj (h s:List UInt8) (hl:h.length=288):(QiS h s).length=288:=by
 unfold QiS
 split
 ·rw[QCM,QC6,Qgl h s hl,QiZ,QaT]
 ·rw[QCS]
def relE (s p:List UInt8):Nat:=Qhp (p.take 288) s
def relC (s p:List UInt8):Cmd:=Qkr (p.take 288) s
def Qdh (s p:List UInt8):List UInt8:=Qb9 (kPay s) (p.drop 288) rsO
def relP (s p:List UInt8):List UInt8:=if relE s p=0∧(relC s p).kd=1 then QiS (p.take 288) s++Qdh s p else QCC 768 0
def relB (s p:List UInt8):List UInt8:=if relE s p=0∧(relC s p).kd≠1 then Qdh s p else []
def unwE (k p:List UInt8):Nat:=if Qbf k (p.take 32)=0 then relE (Qc6 k (p.take 32)) p else Qbf k (p.take 32)
def unwC (k p:List UInt8):Cmd:=if Qbf k (p.take 32)=0 then relC (Qc6 k (p.take 32)) p else cmd0
def unwP (k p:List UInt8):List UInt8:=if Qbf k (p.take 32)=0 then relP (Qc6 k (p.take 32)) p else QCC 768 0
def unwB (k p:List UInt8):List UInt8:=if Qbf k (p.take 32)=0 then relB (Qc6 k (p.take 32)) p else []
theorem Qbg {P:Program} {fn:Func} {p q u:Tmp} {ty ty2:TypeId} (h:fn.results= #[.cell p ty,.cell q ty2,.tmp u]) (tmps:Array Value) (w:World) (g g2:Nat) (t t2:TypeId) (l l2:List Value) (d d2:TypeDesc)
 (hg:Blk w g t l) (hp:tmps.getD p undef= .pointer (some ⟨g,0,none⟩)) (hu:P.underlying ty=some d) (hd:QbO d=true) (hi:(P.info? ty).map (·.size)=some l.length)
 (hg2:Blk w g2 t2 l2) (hp2:tmps.getD q undef= .pointer (some ⟨g2,0,none⟩)) (hu2:P.underlying ty2=some d2) (hd2:QbO d2=true) (hi2:(P.info? ty2).map (·.size)=some l2.length):
 (results fn tmps).run P w= .ok (.tuple #[.agg l.toArray,.agg l2.toArray,tmps.getD u undef]) w:=by
 have h1:=Qbl (P:=P) w g 0 ty l d (fun j v hv=>by rw[QC4];exact hg.cellD j hv) hu hd hi
 have h2:=Qbl (P:=P) w g2 0 ty2 l2 d2 (fun j v hv=>by rw[QC4];exact hg2.cellD j hv) hu2 hd2 hi2
 have hp':tmps[p]?.getD undef= .pointer (some ⟨g,0,none⟩):=by simpa using hp
 have hq':tmps[q]?.getD undef= .pointer (some ⟨g2,0,none⟩):=by simpa using hp2
 simp[results,h,Sem.run_bind,Result.andThen,hp',hq',asAddr,h1,h2]
theorem QlI (h:List UInt8) (hl:h.length=288):[subB h 0 32,subB h 32 16,subB h 48 240].flatten=h:=by
 rw[subB,subB,subB,QDU,QDU,QDU,QEV,QDf,QD7,QCQ (l:=h.drop 48) (by rw[QC6];omega),show h.drop 48=(h.drop 32).drop 16 by rw[QD5],QDa,QDa]
set_option maxRecDepth 100000 in
set_option maxHeartbeats 2000000 in
theorem Qjd (h:List UInt8) (hl:h.length=288) (w:World):
 Calls Tryz.prog 49 #[.agg (h.map W8).toArray] w fun e w'=>∃A' c',e= .returned (.slice A' 288 c')∧OwnB w' w.heap.size A' 288 c' h∧Later w w':=by
 have hb:=Blk.new w 39 (h.map W8)
 have hJ:=hid (fun B d (w:World) hp=>Qcy B 3 d [subB h 0 32,subB h 32 16,subB h 48 240] w hp (by omega) (by rw[QlI h hl];omega))
 rw[QlI h hl,hl]at hJ
 have s0:(subB h 0 32).length=32:=Qaq (by omega)
 have s1:(subB h 32 16).length=16:=Qaq (by omega)
 have s2:(subB h 48 240).length=240:=Qaq (by omega)
 have L:=Qaa w (.cells (h.map W8).toArray 39)
 go_enter Tryz.func49,Tryz.ntmps49
 go_wp2_with fail
 refine Qag [([0,1,2,3,4,5],6),([],7)] [8] [] (by as_aux_lemma=>kernel_rfl) (by as_aux_lemma=>kernel_rfl) (by intro _ _ d _ _ h;cases d<;>exact h) ?_
 simp only[Qah,pick,QCD,QCE,QCG,QCI,QCH]
 repeat (go_big_quiet_step (fail))
 refine wpQuiet_nil ?_
 go_wp2_with fail
 try refine⟨by first|assumption|exact Qab _|exact Qaa _ _|exact Later.refl _,?_⟩
 try simp only[Qah,pick,QCD,QCE,QCG,QCI,QCH]
 repeat (go_big_quiet_step (fail))
 refine wpQuiet_nil ?_
 have l2:=(Qab (w.alloc (.cells (h.map W8).toArray 39))).trans (Qaa _ (.cells #[.slice (some ⟨w.heap.size,0,none⟩) 32 32,.slice (some ⟨w.heap.size,32,none⟩) 16 16,.slice (some ⟨w.heap.size,48,none⟩) 240 240] 22))
 have hb2:=hb.later l2
 have P3:=Qef (bad:=fun _=>False) (ps:=[subB h 0 32,subB h 32 16,subB h 48 240]) ((Blk.new' (n:=w.heap.size+1) (w.alloc (.cells (h.map W8).toArray 39)).drew 22 [.slice (some ⟨w.heap.size,0,none⟩) 32 32,.slice (some ⟨w.heap.size,32,none⟩) 16 16,.slice (some ⟨w.heap.size,48,none⟩) 240 240] (by simp)).rd rfl) (Qbx _ _) ⟨QaM (QbR hb2 rfl s0) (QCP _),QaM (QbR hb2 rfl s1) (QCP _),QaM (QbR hb2 rfl s2) (QCP _),trivial⟩
 go_wp2_with fail
 (with_reducible refine (hJ.out _ _ _ P3).mono ?_);rintro e w3 ⟨A3,c3,rfl,o3,l3⟩
 go_wp2_with fail
 try refine⟨by first|assumption|exact Qab _|exact Qaa _ _|exact Later.refl _,?_⟩
 try simp only[Qah,pick,QCD,QCE,QCG,QCI,QCH]
 repeat (go_big_quiet_step (fail))
 refine wpQuiet_nil ?_
 go_wp2_with fail
 go_ret
 exact⟨_,_,rfl,o3.mono (L.trans l2).size,(L.trans l2).trans l3⟩
set_option maxRecDepth 100000 in
set_option maxHeartbeats 2000000 in
theorem QsI (h s:List UInt8) (hl:h.length=288) (hs:s.length=192) (w:World):
 Calls Tryz.prog 176 #[.agg (h.map W8).toArray,.agg (s.map W8).toArray] w fun e w'=>e= .returned (.bool (Qme h s))∧Later w w':=by
 have C1:=QaW w 39 (h.map W8)
 have C2:Bag w ((w.alloc (.cells (h.map W8).toArray 39)).alloc (.cells (s.map W8).toArray 170)) [(w.heap.size+1,170,s.map W8),(w.heap.size,39,h.map W8)]:=
  C1.add (Qaa _ _) (by simp) (by omega) (Blk.new' _ _ _ (by simp))
 clear C1
 have s0:(subB h 0 32).length=32:=Qaq (by omega)
 have s1:(subB h 32 16).length=16:=Qaq (by omega)
 have s2:(subB h 48 240).length=240:=Qaq (by omega)
 have k0:(kMac s).length=32:=Qaq (by omega)
 have hC:=hid (fun A B C d e0 (w:World) h1 h2 h3=>QrD A B C 32 32 2 d 16 e0 (kMac s) (subB h 32 16) [subB h 0 32,subB h 48 240] w h1 (by omega) (by omega) h2 (by omega) h3 (by omega) (by simp[s0,s2]))
 have hF:=hid (show Qme h s=decide ((QbF (kMac s) [subB h 0 32,subB h 48 240].flatten).take 16=subB h 32 16) by
  rw[Qme,tagB,QDU,QDU,QEV,QDf])
 go_enter Tryz.func176,Tryz.ntmps176
 go_wp2_with fail
 generalize hW:(w.alloc _).alloc _=w1
 replace C2:Bag w w1 [(w.heap.size+1,170,s.map W8),(w.heap.size,39,h.map W8)]:=by rw[←hW];exact C2
 clear hW
 refine Qag [([0,1,2,3,4,5,6,7,8],9),([],10)] [11] [] (by as_aux_lemma=>kernel_rfl) (by as_aux_lemma=>kernel_rfl) (by intro _ _ d _ _ h;cases d<;>exact h) ?_
 simp only[Qah,pick,QCD,QCE,QCG,QCI,QCH]
 repeat (go_big_quiet_step (fail))
 refine wpQuiet_nil ?_
 go_wp2_with fail
 try refine⟨by first|assumption|exact Qab _|exact Qaa _ _|exact Later.refl _,?_⟩
 try simp only[Qah,pick,QCD,QCE,QCG,QCI,QCH]
 repeat (go_big_quiet_step (fail))
 refine wpQuiet_nil ?_
 have l2:=(Qab w1).trans (Qaa _ (.cells #[.slice (some ⟨w.heap.size,0,none⟩) 32 32,.slice (some ⟨w.heap.size,48,none⟩) 240 240] 22))
 have B2:=C2.later l2
 have P3:=Qef (bad:=fun _=>False) (ps:=[subB h 0 32,subB h 48 240]) ((Blk.new w1.drew 22 [.slice (some ⟨w.heap.size,0,none⟩) 32 32,.slice (some ⟨w.heap.size,48,none⟩) 240 240]).rd rfl) (Qbx _ _) ⟨QaM (QbR (B2.nth 1 rfl) rfl s0) (QCP _),QaM (QbR (B2.nth 1 rfl) rfl s2) (QCP _),trivial⟩
 go_wp2_with fail
 (refine (hC.out _ _ _ _ _ _ (QbR (B2.nth 0 rfl) rfl k0) (QbR (B2.nth 1 rfl) rfl s1) P3).mono ?_);rintro e w3 ⟨rfl,l3⟩
 rw[←hF.out]
 go_wp2_with fail
 try refine⟨by first|assumption|exact Qab _|exact Qaa _ _|exact Later.refl _,?_⟩
 try simp only[Qah,pick,QCD,QCE,QCG,QCI,QCH]
 repeat (go_big_quiet_step (fail))
 refine wpQuiet_nil ?_
 go_wp2_with fail
 go_ret
 exact⟨rfl,B2.lat.trans l3⟩
abbrev cz0:List Value:=[.int .u8 0,.int .u8 0,.int .u32 0,.int .u64 0,.int .u8 0,.int .u8 0,.int .u8 0,.int .u8 0,.int .u8 0,.int .u8 0,.int .u8 0,.int .u8 0,.int .u8 0,.int .u8 0,.int .u8 0,.int .u8 0,.int .u8 0,.int .u8 0,.int .u8 0,.int .u8 0]
theorem Qc8 {w:World} {b p n:Nat} {bs:List UInt8} (h:RdB w (some ⟨b,p,none⟩) n bs) (i:Nat) (hi:i<n):w.cell? ⟨b,p+i,none⟩=some (W8 (bs.getD i 0)):=by
 obtain⟨b',o',he,_,hc⟩:=h.2 (by omega)
 have hl:=h.len
 cases he
 exact hc i _ (by rw[QCY,QCK,QCJ (by omega)];rfl)
theorem QpJ (b:List UInt8) (hb:b.length=32) (d:UInt32) (x:UInt64) (hd:d=(QfL b).dl) (hx:x=(QfL b).nx):
 Qao (((CC ⟨b.getD 0 0,b.getD 1 0,0,0,Qa3⟩).set 2 (W32 d)).set 3 (W64 x)) 4 (((b.drop 14).map W8).take 16)=CC (QfL b):=by
 subst hd hx
 have hm:=QjQ b hb
 have hml:((b.drop 14).map W8).take 16=(subB b 14 16).map W8:=by rw[←QD9];rfl
 have hl:=Qaq (bs:=b) (off:=14) (n:=16) (by omega)
 rw[hml,Qao,QCF,hl,QEc (by rw[QDl,QDl,Qar];omega),QDf,CC,CC,hm]
 rfl
theorem QrZ (b:List UInt8):decE b=if (!(cmdE (QfL b)==1)&&(!(b.getD 30 0==0)|| !(b.getD 31 0==0)))=true then 3 else cmdE (QfL b):=by
 rw[decE]
 congr 1
 simp
theorem QpC (c:Cmd):cmdE c=0∨cmdE c=1∨cmdE c=3∨cmdE c=11:=by
 unfold cmdE
 split
 ·simp
 ·split
  ·simp
  ·split<;>simp
set_option maxRecDepth 100000 in
set_option maxHeartbeats 8000000 in
theorem Qnv (A:Option Addr) (c:Nat) (b:List UInt8) (w:World) (hb:RdB w A 32 b) (hc:32≤c):
 Calls Tryz.prog 177 #[.slice A 32 c] w fun e w'=>e= .returned (.tuple #[.agg (CC (decC b)).toArray,.int .i64 (decE b:Nat)])∧Later w w':=by
 have hbl:=hb.len
 obtain⟨b0,p,rfl,_,_⟩:=hb.2 (by omega)
 have B0:=QaW w 62 cz0
 have hz0:cz0.length=20:=rfl
 have hG1:Hid (∀ w,RdB w (some ⟨b0,p,none⟩) 32 b→Calls Tryz.prog 46 #[.int .i64 2,.slice (some ⟨b0,p,none⟩) 32 c,.int .i64 2,.int .i64 4] w fun e w'=>e= .returned (.tuple #[W64 (QC7 (beN (subB b 2 4) 0)),.int .i64 0])∧Later w w'):=
  hid (fun w h=>Qgt _ 32 c 2 4 b w h (by omega) (by omega) (by omega) (by omega))
 have hG2:Hid (∀ w,RdB w (some ⟨b0,p,none⟩) 32 b→Calls Tryz.prog 46 #[.int .i64 2,.slice (some ⟨b0,p,none⟩) 32 c,.int .i64 6,.int .i64 8] w fun e w'=>e= .returned (.tuple #[W64 (QC7 (beN (subB b 6 8) 0)),.int .i64 0])∧Later w w'):=
  hid (fun w h=>Qgt _ 32 c 6 8 b w h (by omega) (by omega) (by omega) (by omega))
 have hfill:=hid (QpJ b hbl _ (QC7 (beN (subB b 6 8) 0)) (Qyy (beN (subB b 2 4) 0)) rfl)
 have hcut:cutA (some ⟨b0,p,none⟩) 30 c=some ⟨b0,p+30,none⟩:=by rw[cutA,if_neg (by omega)];rfl
 have hcutc:cutA (some ⟨b0,p,none⟩) 14 c=some ⟨b0,p+14,none⟩:=by rw[cutA,if_neg (by omega)];rfl
 have hCk:=hid (Qg1 (QfL b))
 have hE:=QpC (QfL b)
 have hD:=hid (QrZ b)
 have hC:=hid (show decC b=if decE b=0 then QfL b else cmd0 from rfl)
 have hcd:=hb.cut (c:=c) (show 14≤32 by omega) hc
 rw[hcutc]at hcd
 generalize QC7 (beN (subB b 2 4) 0)=x1 at *
 generalize QC7 (beN (subB b 6 8) 0)=x2 at *
 generalize decC b=DC at *
 generalize decE b=DE at *
 generalize cmdE (QfL b)=e9 at *
 have hb0:=Qjq
 go_enter Tryz.func177,Tryz.ntmps177
 go_wp2_with fail
 generalize hW:w.alloc _=w1
 replace B0:Bag w w1 [(w.heap.size,62,cz0)]:=by rw[←hW];exact B0
 clear hW
 have r1:=(hb.later B0.lat).later (Qab _)
 have c0:=Qc8 r1 0 (by omega)
 have c1:=Qc8 r1 1 (by omega)
 have hlb:b0<w1.drew.heap.size:=by
  obtain⟨_,_,he,h,_⟩:=r1.2 (by omega)
  cases he
  exact h
 rw[QD8]at c0
 have hbc:=QpQ (b.getD 0 0) (b.getD 1 0)
 generalize b.getD 0 0=k0 at *
 generalize b.getD 1 0=k1 at *
 refine Qag [([0,1,2,3,4,5,6],7)] [] [8] (by as_aux_lemma=>kernel_rfl) (by as_aux_lemma=>kernel_rfl) (by intro _ _ d _ _ h;cases d<;>exact h) ?_
 simp only[Qah,pick,QCD,QCE,QCG,QCI,QCH]
 repeat (first|go_big_quiet_skip|(go_big_quiet_want;(refine Qcc _ _ rfl (CC ⟨k0,k1,0,0,Qa3⟩) (by simp only[QCT,QC9,QC3];exact hbc) ?_);simp only[Act.put,QCL,QCO,QCN];go_big_quiet_on)|(go_big_quiet_step (fail)))
 refine wpQuiet_nil ?_
 go_wp2_with fail
 try refine⟨by first|assumption|exact Qab _|exact Qaa _ _|exact Later.refl _,?_⟩
 try simp only[Qah,pick,QCD,QCE,QCG,QCI,QCH]
 repeat (go_big_quiet_step (fail))
 refine wpQuiet_nil ?_
 go_wp2_with (first
  | (refine Qb1 rfl rfl _ _ rfl (Blk.new w1.drew _ cz0) rfl rfl rfl ?_;intro w3 hb3 ho3)
  | fail)
 have B1:=B0.push ((Qab _).trans (Qaa _ _)) (QCP _) ho3 hb3
 clear hb3 ho3 r1 c0 c1 hlb B0
 generalize w1.heap.size=g3 at *
 (with_reducible refine (hG1.out _ (hb.later B1.lat)).mono ?_);rintro e w4 ⟨rfl,j4⟩
 go_wp2_with fail
 (with_reducible refine (hG2.out _ (hb.later (B1.lat.trans j4))).mono ?_);rintro e w5 ⟨rfl,j5⟩
 replace B1:=(B1.later j4).later j5
 clear j4 j5 hG1 hG2
 go_wp2_with (first
  | (refine Qad rfl rfl _ _ _ rfl g3 2 _ _ (B1.nth 0 rfl) rfl (by rw[Qar];omega) rfl (by kernel_rfl) ?_;intro v6 w6 hv6 hb6 ho6;simp[go_sem]at hv6;subst hv6
     have B2:=B1.write 0 rfl ho6 hb6)
  | (refine Qad rfl rfl _ _ _ rfl g3 3 _ _ (B2.nth 0 rfl) rfl (by rw[QDl,Qar];omega) rfl (by kernel_rfl) ?_;intro v7 w7 hv7 hb7 ho7;simp[go_sem]at hv7;subst hv7
     have B3:=B2.write 0 rfl ho7 hb7)
  | fail)
 clear hb6 ho6 hb7 ho7 B1 B2
 have B4:=B3.drew
 have hlb:b0<w7.drew.heap.size:=by
  obtain⟨_,_,he,h,_⟩:=(hb.later B4.lat).2 (by omega)
  cases he
  exact h
 refine Qag [] [0,1,2,3] [4] (by as_aux_lemma=>kernel_rfl) (by as_aux_lemma=>kernel_rfl) (by intro _ _ d _ _ h;cases d<;>exact h) ?_
 simp only[Qah,pick,QCD,QCE,QCG,QCI,QCH]
 repeat (go_big_quiet_step (fail))
 refine wpQuiet_nil ?_
 go_wp2_with (first
  | (refine Qas rfl _ _ _ _ rfl 5 Tryz.underlying22 Qbt g3 4 16 16 _ _ (B4.nth 0 rfl) (some ⟨b0,p+14,none⟩) 18 (c-14) ((b.drop 14).map W8) (Rd.later hcd B4.lat) (QaH _) rfl rfl (by have:=Qar ⟨k0,k1,0,0,Qa3⟩;simp only[QDl];omega) ?_;intro w8 hb8 ho8;rw[hfill.out]at hb8
     have B5:=B4.write 0 rfl ho8 hb8)
  | (refine QcU rfl _ rfl (B5.nth 0 rfl) rfl ?_)
  | fail)
 (with_reducible refine (hCk.out _).mono ?_);rintro e w9 ⟨rfl,j9⟩
 have B6:=B5.later j9
 have r9:=hb.later B6.lat
 have c30:=Qc8 r9 30 (by omega)
 have c31:=Qc8 r9 31 (by omega)
 clear hb8 ho8 B5 B4 B3 j9 hcd hcutc hfill hCk r9 hlb hbc
 generalize b.getD 30 0=d30 at *
 generalize b.getD 31 0=d31 at *
 generalize QfL b=cm at *
 rcases hE with rfl|rfl|rfl|rfl
 all_goals
  cases h30:(d30==0)<;>cases h31:(d31==0)
  all_goals
   have hDE:=hD.out
   have hDC:=hC.out
   rw[h30,h31]at hDE
   simp at hDE
   rw[hDE]at hDC
   simp at hDC
   replace hDE:=hid hDE
   replace hDC:=hid hDC
   have n30:(d30 != 0)= !(d30==0):=rfl
   have n31:(d31 != 0)= !(d31==0):=rfl
   rw[h30]at n30
   rw[h31]at n31
   clear hD hC
   go_wp2_with (first
    | (refine QcU rfl _ rfl (B6.nth 0 rfl) rfl ?_)
    | (refine Qaj rfl _ _ rfl (CC cmd0) (by simp only[QCT,QC3];exact hb0) ?_)
    | (refine Qb1 rfl rfl _ _ rfl (B6.nth 1 rfl) rfl rfl hz0 ?_;intro w10 hb10 ho10)
    | fail)
   exact bodyPost_ret (Qai rfl _ _ _ _ _ _ hb10 rfl Tryz.underlying62 rfl (by rw[Qar];exact Qed)) rfl ⟨by rw[hDE.out,hDC.out];rfl,(B6.write 1 rfl ho10 hb10).lat⟩
section
variable {ops:Array Oper} {rest:List Oper} {o:Oper} {a:Act} {w:World} {Q:Exit→Act→World→Prop}
theorem Qfr {P:Program} {J:Act→Prop} (ty:TypeId) (x:Operand) (ho:o.op= .load ty x) {w0:World} {bad:List Nat} {g:Nat} {t:TypeId} {l:List Value} (off:Nat) (vs:List Value) (hb:Blk w0 g t l) (hn:∀b∈bad,g≠b) (hx:a.eval x= .pointer (some ⟨g,off,none⟩))
 (hv:∀j v,vs[j]?=some v→l[off+j]?=some v) (d:TypeDesc) (hu:P.underlying ty=some d) (hd:QbO d=true) (hi:(P.info? ty).map (·.size)=some vs.length) (h:J (a.put o.dst (.agg vs.toArray))):o.quiet P a (Spared w0 bad) J:=
 Qav _ x ho g off vs (fun _ hw j v hv'=>Blk.cellD (hw.blk hb hn) _ (hv j v hv')) hx d hu hd hi h
end
theorem Qgz (l:List Value):∀j v,l[j]?=some v→l[0+j]?=some v:=fun j v h=>by rw[QC4];exact h
theorem Qoe {w:World} {g n k:Nat} {t:TypeId} {bs:List UInt8} {rest:List Value} (h:Blk w g t (bs.map W8++rest)) (hn:bs.length=n) (hk:k<n):Rd w (some ⟨g,k,none⟩) (n-k) ((bs.drop k).map W8):=by
 have h1:=(Qft h hn).cut (k:=k) (c:=n+1) (by omega) (by omega)
 rw[show cutA (some ⟨g,0,none⟩) k (n+1)=some ⟨g,k,none⟩ by
  rw[cutA,if_neg (by omega)]
  show some ((⟨g,0,none⟩:Addr).add k)=_
  rw[QcK,QC4]]at h1
 exact h1
theorem Quc (nb pl:List UInt8) (hn:nb.length=32) (hp:pl.length=288):putB (putB (putB (QCC 288 0) 0 nb) 32 ((pl.drop 32).take 16)) 48 (pl.drop 48)=nb++pl.drop 32:=by
 have h:=QrK (nb++pl.drop 32) (by rw[QCM,QC6];omega)
 rw[QDx hn,QDj hn,show (nb++pl.drop 32).drop 48=pl.drop 48 by rw[QET,QEc (by omega),QCH,hn,QD5]]at h
 exact h
theorem Qpx (h s:List UInt8) (hl:h.length=288):[subB h 48 240,QCC 48 0].flatten.length=288∧xorB [subB h 48 240,QCC 48 0].flatten (chaS (kStr s) 288)=Qcm h s:=by
 have s2:(subB h 48 240).length=240:=Qaq (by omega)
 rw[QDU,QDU,QEV,QDf]
 exact⟨by rw[QCM,s2,QCS],rfl⟩
set_option maxRecDepth 100000 in
set_option maxHeartbeats 8000000 in
theorem Qtb (h s:List UInt8) (hl:h.length=288) (hs:s.length=192) (w:World):
 Calls Tryz.prog 108 #[.agg (h.map W8).toArray,.agg (s.map W8).toArray] w fun e w'=>e= .returned (.tuple #[.agg (CC (Qkr h s)).toArray,.agg ((QiS h s).map W8).toArray,.int .i64 (Qhp h s:Nat)])∧Later w w':=by
 have HZ:=hid zcH
 have l0:(QCC 288 (0:UInt8)).length=288:=QCS
 have C1:=QaW w 39 (h.map W8)
 have C2:=C1.add (Qaa _ (.cells (s.map W8).toArray 170)) (k:=w.heap.size+1) (by simp) (by omega) (Blk.new' _ _ _ (by simp))
 have C3:=C2.add (Qaa _ (.cells cz0.toArray 62)) (k:=w.heap.size+2) (by simp) (by omega) (Blk.new' _ _ _ (by simp))
 have C4:=C3.add (Qaa _ (.cells Tryz.zeroCells39 39)) (k:=w.heap.size+3) (by simp) (by omega) ((Blk.new' _ _ Tryz.zeroCells39.toList (by simp)).cast HZ.out)
 clear C1 C2 C3
 have s2:(subB h 48 240).length=240:=Qaq (by omega)
 have k1:(kStr s).length=32:=Qaq (by omega)
 have hF:=hid (QsI h s hl hs)
 have hpf:=Qpx h s hl
 have hT:=hid (fun B d g (w:World) hk hp=>QhL (some ⟨g,32,none⟩) 32 2 d B (kStr s) [subB h 48 240,QCC 48 0] w hk hp (by omega) (by rw[hpf.1];omega))
 rw[hpf.1,hpf.2]at hT
 have hpl:=Qgl h s hl
 have hD:=hid (fun A c (w:World) h1 h2=>Qnv A c ((Qcm h s).take 32) w h1 h2)
 have hE:Hid (Qhp h s=if Qme h s=false then 6 else if decE ((Qcm h s).take 32)≠0 then 3 else if (decC ((Qcm h s).take 32)).kd=1 then QnG s else 0):=hid rfl
 have hC:Hid (Qkr h s=if Qhp h s=0 then decC ((Qcm h s).take 32) else cmd0):=hid rfl
 have hN:Hid (QiS h s=if Qhp h s=0∧(decC ((Qcm h s).take 32)).kd=1 then QiZ s++(Qcm h s).drop 32 else QCC 288 0):=hid rfl
 have hX:=hid (fun (w:World)=>Qoi s (kBli s) (kAlp s) hs rfl rfl w)
 have hput:=hid (Quc (QiZ s) (Qcm h s) (QaT _ _) hpl)
 have hXb:Hid (Qbe (kBli s) (kAlp s)=QiZ s∧Qbf (kBli s) (kAlp s)=QnG s):=hid ⟨rfl,rfl⟩
 rw[hXb.out.1,hXb.out.2]at hX
 have nbl:(QiZ s).length=32:=QaT _ _
 have hb0:=Qjq
 have hbh:=Qo6
 clear hpf hXb
 generalize Qkr h s=OC at *
 generalize QiS h s=ON at *
 generalize Qhp h s=OE at *
 generalize Qme h s=F at *
 generalize Qcm h s=pl at *
 generalize decE (pl.take 32)=dE at *
 generalize decC (pl.take 32)=dC at *
 generalize QnG s=nE at *
 generalize QiZ s=nb at *
 have hnbl:=nbl
 generalize QCC 288 (0:UInt8)=Z at *
 have hzl:(Z.map W8).length=288:=by rw[QCF];exact l0
 have hz0:cz0.length=20:=rfl
 go_enter Tryz.func108,Tryz.ntmps108
 go_wp2_with (first
  | (refine Ql6 rfl _ rfl (C4.nth 3 rfl) hl rfl ?_)
  | (refine Qe8 rfl _ rfl (C4.nth 2 rfl) hs rfl ?_)
  | fail)
 (with_reducible refine (hF.out _).mono ?_);rintro e w5 ⟨rfl,l5⟩
 replace C4:=C4.later l5
 clear l5 hF
 cases F
 ·have HE:=hE.out
  rw[if_pos rfl]at HE
  have HC:=hC.out
  rw[HE,if_neg (by decide)]at HC
  have HN:=hN.out
  rw[HE,if_neg (by simp)]at HN
  replace HE:=hid HE
  replace HC:=hid HC
  replace HN:=hid HN
  clear hE hC hN
  go_wp2_with (first
   | (refine Qaj rfl 62 _ rfl (CC cmd0) (by simp only[QCT,QC3];exact hb0) ?_)
   | (refine Qaj rfl 39 _ rfl (Z.map W8) (by simp only[QCT,QC3];exact hbh) ?_)
   | (refine Qb1 rfl rfl _ _ rfl (C4.nth 1 rfl) rfl rfl hz0 ?_;intro w6 hb6 ho6
      have C5:=C4.write 1 rfl ho6 hb6)
   | (refine Qdw rfl rfl _ _ rfl (C5.nth 0 rfl) rfl rfl l0 hzl ?_;intro w7 hb7 ho7
      have C6:=C5.write 0 rfl ho7 hb7)
   | fail)
  exact bodyPost_ret (Qbg rfl _ _ _ _ _ _ _ _ _ _ (C6.nth 1 rfl) rfl Tryz.underlying62 rfl (by rw[Qar];exact Qed) (C6.nth 0 rfl) rfl Tryz.underlying39 rfl (by rw[QCF,l0];exact Qb6)) rfl ⟨by rw[HE.out,HC.out,HN.out];rfl,C6.lat⟩
 ·replace hE:Hid (OE=if dE≠0 then 3 else if dC.kd=1 then nE else 0):=hid (by rw[hE.out,if_neg (by decide)])
  go_wp2_with fail
  have C5:=C4.drew
  clear C4
  refine Qag [([0,1,2,3,4],5),([],6),([],7)] [8,9,10,11,12] [] (by as_aux_lemma=>kernel_rfl) (by as_aux_lemma=>kernel_rfl) (by intro _ _ d _ _ h;cases d<;>exact h) ?_
  simp only[Qah,pick,QCD,QCE,QCG,QCI,QCH]
  repeat (go_big_quiet_step (fail))
  refine wpQuiet_nil ?_
  go_wp2_with (first
   | (refine QaF rfl _ _ _ rfl 5 _ 1 Tryz.underlying22 Qdo rfl _ _ _ _ 48 rfl rfl rfl rfl (by omega) (by omega) ?_;intro w6 hb6 hl6)
   | fail)
  try refine⟨by first|assumption|exact Qab _|exact Qaa _ _|exact Later.refl _,?_⟩
  try simp only[Qah,pick,QCD,QCE,QCG,QCI,QCH]
  repeat (go_big_quiet_step (fail))
  refine wpQuiet_nil ?_
  have C6:=C5.later hl6
  go_wp2_with fail
  try refine⟨by first|assumption|exact Qab _|exact Qaa _ _|exact Later.refl _,?_⟩
  try simp only[Qah,pick,QCD,QCE,QCG,QCI,QCH]
  repeat (go_big_quiet_step (fail))
  refine wpQuiet_nil ?_
  have l7:=Qaa w6 (.cells #[.slice (some ⟨w.heap.size,48,none⟩) 240 240,.slice (some ⟨w5.drew.heap.size,0,none⟩) 48 48] 22)
  have C7:=C6.later l7
  have P7:=Qef (bad:=fun _=>False) (ps:=[subB h 48 240,QCC 48 0]) ((Blk.new w6 22 [.slice (some ⟨w.heap.size,48,none⟩) 240 240,.slice (some ⟨w5.drew.heap.size,0,none⟩) 48 48]).rd rfl) (Qbx _ _) ⟨QaM (QbR (C7.nth 3 rfl) rfl s2) (QCP _),QaM (show RdB _ (some ⟨w5.drew.heap.size,0,none⟩) 48 (QCC 48 0) from (hb6.later l7).rd rfl) (QCP _),trivial⟩
  have hk7:=QbR (C7.nth 2 rfl) rfl k1
  go_wp2_with fail
  (refine (hT.out _ _ _ _ hk7 P7).mono ?_);rintro e w8 ⟨A8,c8,rfl,o8,l8⟩
  obtain⟨g8,r8,rfl,hg8,hb8,hc8,hcc8⟩:=Qkm o8 (by omega)
  have C8:=C7.fresh l8 hg8 hb8
  clear C5 C6 C7 P7 hk7 l7 hl6 hb6 hT o8 hb8 hg8 hc8
  go_wp2_with fail
  try refine⟨by first|assumption|exact Qab _|exact Qaa _ _|exact Later.refl _,?_⟩
  try simp only[Qah,pick,QCD,QCE,QCG,QCI,QCH]
  repeat (go_big_quiet_step (fail))
  refine wpQuiet_nil ?_
  go_wp2_with fail
  (refine (hD.out _ _ _ ((Qft (C8.nth 0 rfl) hpl).take (m:=32) (by omega)) (by omega)).mono ?_);rintro e w9 ⟨rfl,l9⟩
  have C9:=C8.later l9
  clear C8 l9 hD
  by_cases hd0:dE=0
  ·subst hd0
   replace hE:Hid (OE=if dC.kd=1 then nE else 0):=hid (by rw[hE.out,if_neg (by simp)])
   cases hk1:(dC.kd==1)
   ·have hkn: ¬dC.kd=1:=by simpa using hk1
    have n1:(dC.kd != 1)=true:=by rw[bne,hk1];rfl
    have HE:OE=0:=by rw[hE.out,if_neg hkn]
    have HC:OC=dC:=by rw[hC.out,HE,if_pos rfl]
    have HN:ON=Z:=by rw[hN.out,if_neg (fun h=>hkn h.2)]
    replace HE:=hid HE
    replace HC:=hid HC
    replace HN:=hid HN
    clear hE hC hN hkn
    go_wp2_with (first
     | (refine Qb1 rfl rfl _ _ rfl (Blk.new w9 _ cz0) rfl rfl rfl ?_;intro w10 hb10 ho10
        have C10:=C9.push (Qaa _ _) (QCP _) ho10 hb10
        have hc0:=(QeI hb10).1)
     | (refine QcU rfl _ rfl (C10.nth 0 rfl) rfl ?_)
     | (refine Qaj rfl 39 _ rfl (Z.map W8) (by simp only[QCT,QC3];exact hbh) ?_)
     | (refine Qb1 rfl rfl _ _ rfl (C10.nth 3 rfl) rfl rfl hz0 ?_;intro w11 hb11 ho11
        have C11:=C10.write 3 rfl ho11 hb11)
     | (refine Qdw rfl rfl _ _ rfl (C11.nth 2 rfl) rfl rfl l0 hzl ?_;intro w12 hb12 ho12
        have C12:=C11.write 2 rfl ho12 hb12)
     | fail)
    exact bodyPost_ret (Qbg rfl _ _ _ _ _ _ _ _ _ _ (C12.nth 3 rfl) rfl Tryz.underlying62 rfl (by rw[Qar];exact Qed) (C12.nth 2 rfl) rfl Tryz.underlying39 rfl (by rw[QCF,l0];exact Qb6)) rfl ⟨by rw[HE.out,HC.out,HN.out];rfl,C12.lat⟩
   ·have hky:dC.kd=1:=by simpa using hk1
    have n1:(dC.kd != 1)=false:=by rw[bne,hk1];rfl
    replace hE:Hid (OE=nE):=hid (by rw[hE.out,if_pos hky])
    have l1:(putB Z 0 nb).length=288:=by rw[Qbp (by omega)];exact l0
    have l2:(putB (putB Z 0 nb) 32 ((pl.drop 32).take 16)).length=288:=by rw[Qbp (by rw[QC5,QC6];omega)];exact l1
    have e3:((pl.drop 48).take 240)=pl.drop 48:=QCQ (by rw[QC6];omega)
    have HNL:(nb++pl.drop 32).length=288:=by rw[QCM,QC6];omega
    replace e3:=hid e3
    generalize hZ2:putB (putB Z 0 nb) 32 ((pl.drop 32).take 16)=Z2 at *
    generalize hZ1:putB Z 0 nb=Z1 at *
    replace hZ1:=hid hZ1
    replace hZ2:=hid hZ2
    replace hky:=hid hky
    go_wp2_with (first
     | (refine Qb1 rfl rfl _ _ rfl (Blk.new w9 _ cz0) rfl rfl rfl ?_;intro w10 hb10 ho10
        have C10:=C9.push (Qaa _ _) (QCP _) ho10 hb10
        have hc0:=(QeI hb10).1)
     | (refine Qe8 rfl _ rfl ((C10.later (Qaa _ _)).nth 4 rfl) hs rfl ?_)
     | fail)
    (with_reducible refine (hX.out _).mono ?_);rintro e w11 ⟨rfl,l11⟩
    have C11:=(C10.fresh (Qaa _ _) (QCP _) ((Blk.new w10 _ Tryz.zeroCells39.toList).cast HZ.out)).later l11
    clear hb10 ho10 l11 C10 C9
    have hc0':=(QeI (C11.nth 1 rfl)).1
    by_cases hn0:nE=0
    ·subst hn0
     have HE:=hE.out
     have HC:OC=dC:=by rw[hC.out,HE,if_pos rfl]
     have HN:ON=nb++pl.drop 32:=by rw[hN.out,if_pos ⟨HE,hky.out⟩]
     replace HE:=hid HE
     replace HC:=hid HC
     replace HN:=hid HN
     clear hE hC hN
     generalize nb++pl.drop 32=NX at *
     have hNX:=hid (QgA NX 288 HNL)
     go_wp2_with (first
      | (refine QmH 0 32 rfl rfl _ _ rfl (C11.nth 0 rfl) rfl rfl Qfa hnbl (by omega) ?_;intro w12 hb12 ho12;rw[hZ1.out]at hb12
         have C12:=C11.write 0 rfl ho12 hb12)
      | fail)
     have C13:=C12.drew
     clear C11 C12 hb12 ho12
     have r32:=Qoe (k:=32) (C13.nth 2 rfl) hpl (by omega)
     refine Qag [] [0,1,2,3] [4] (by as_aux_lemma=>kernel_rfl) (by as_aux_lemma=>kernel_rfl) (by intro _ _ d _ _ h;cases d<;>exact h) ?_
     simp only[Qah,pick,QCD,QCE,QCG,QCI,QCH]
     repeat (go_big_quiet_step (fail))
     refine wpQuiet_nil ?_
     go_wp2_with (first
      | (refine Qas rfl _ _ _ _ rfl 5 Tryz.underlying22 Qbt w10.heap.size 32 16 16 _ _ (C13.nth 0 rfl) (some ⟨g8,32,none⟩) 256 (c8-32) ((pl.drop 32).map W8) r32 (QaH _) rfl rfl (by rw[QCF];omega) ?_;intro w14 hb14 ho14;rw[←QD9,QcB,hZ2.out]at hb14
         have C14:=C13.write 0 rfl ho14 hb14)
      | fail)
     have C15:=C14.drew
     simp only[Act.put,QCL,QCO,QCN]
     have r48:=Qoe (k:=48) (C15.nth 2 rfl) hpl (by omega)
     refine Qag [] [0,1,2,3] [4] (by as_aux_lemma=>kernel_rfl) (by as_aux_lemma=>kernel_rfl) (by intro _ _ d _ _ h;cases d<;>exact h) ?_
     simp only[Qah,pick,QCD,QCE,QCG,QCI,QCH]
     repeat (go_big_quiet_step (fail))
     refine wpQuiet_nil ?_
     go_wp2_with (first
      | (refine Qas rfl _ _ _ _ rfl 5 Tryz.underlying22 Qbt w10.heap.size 48 240 240 _ _ (C15.nth 0 rfl) (some ⟨g8,48,none⟩) 240 (c8-48) ((pl.drop 48).map W8) r48 (QaH _) rfl rfl (by rw[QCF];omega) ?_;intro w16 hb16 ho16;rw[←QD9,QcB,e3.out,hput.out]at hb16
         have C16:=C15.write 0 rfl ho16 hb16)
      | fail)
     simp only[Act.put,QCL,QCO,QCN]
     clear hb14 ho14 hb16 ho16 C13 C14 C15 r32 r48
     have hne03:=C16.ne 0 4 rfl rfl (by decide)
     refine Qc4 [0,1] [2,3,4] (fun i=>if i=1 then [2] else []) (fun i=>if i=2 then w.heap.size+2 else w.heap.size+3) (by as_aux_lemma=>kernel_rfl) (by as_aux_lemma=>kernel_rfl) (by intro _ _ d _ _ h;cases d<;>exact h) ?_
     refine⟨_,rfl,rfl,?_⟩
     refine Qfr _ _ rfl 0 (CC dC) (C16.nth 1 rfl) (by simp) rfl (Qgz _) _ Tryz.underlying62 rfl (by rw[Qar];exact Qed) ?_
     simp only[Act.put,QCL,QCO,QCN]
     refine⟨_,rfl,rfl,?_⟩
     refine Qfr _ _ rfl 0 (NX.map W8) (C16.nth 0 rfl) (by intro b hb;simp at hb;subst hb;exact hne03) rfl (Qgz _) _ Tryz.underlying39 rfl (by rw[QCF,HNL];exact Qb6) ?_
     simp only[Act.put,QCL,QCO,QCN]
     simp only[Qij,Qf2,pick,QCD,QCE,QCG,QCI,QCH]
     refine Qb1 rfl rfl _ _ rfl (C16.drew.nth 4 rfl) rfl rfl hz0 ?_
     intro w17 hb17 ho17
     have C17:=C16.drew.write 4 rfl ho17 hb17
     refine⟨ho17,?_⟩
     refine Qdw rfl rfl _ _ rfl (C17.nth 3 rfl) rfl rfl HNL hzl ?_
     intro w18 hb18 ho18
     have C18:=C17.write 3 rfl ho18 hb18
     refine⟨ho18,?_⟩
     go_wp2_with fail
     refine⟨World.grownBy.refl _ _,?_⟩
     go_wp2_with fail
     exact bodyPost_ret (Qbg rfl _ _ _ _ _ _ _ _ _ _ (C18.nth 4 rfl) rfl Tryz.underlying62 rfl (by rw[Qar];exact Qed) (C18.nth 3 rfl) rfl Tryz.underlying39 rfl (by rw[QCF,HNL];exact Qb6)) rfl ⟨by rw[HE.out,HC.out,HN.out];rfl,C18.lat⟩
    ·have hne:((nE:Int) != 0)=true:=by simp;omega
     have HE:=hE.out
     have HC:OC=cmd0:=by rw[hC.out,HE,if_neg hn0]
     have HN:ON=Z:=by rw[hN.out,HE,if_neg (fun h=>hn0 h.1)]
     replace HE:=hid HE
     replace HC:=hid HC
     replace HN:=hid HN
     clear hE hC hN
     go_wp2_with (first
      | (refine QmH 0 32 rfl rfl _ _ rfl (C11.nth 0 rfl) rfl rfl Qfa hnbl (by omega) ?_;intro w12 hb12 ho12;rw[hZ1.out]at hb12
         have C12:=C11.write 0 rfl ho12 hb12)
      | (refine Qaj rfl 62 _ rfl (CC cmd0) (by simp only[QCT,QC3];exact hb0) ?_)
      | (refine Qaj rfl 39 _ rfl (Z.map W8) (by simp only[QCT,QC3];exact hbh) ?_)
      | (refine Qb1 rfl rfl _ _ rfl (C12.nth 4 rfl) rfl rfl hz0 ?_;intro w13 hb13 ho13
         have C13:=C12.write 4 rfl ho13 hb13)
      | (refine Qdw rfl rfl _ _ rfl (C13.nth 3 rfl) rfl rfl l0 hzl ?_;intro w14 hb14 ho14
         have C14:=C13.write 3 rfl ho14 hb14)
      | fail)
     exact bodyPost_ret (Qbg rfl _ _ _ _ _ _ _ _ _ _ (C14.nth 4 rfl) rfl Tryz.underlying62 rfl (by rw[Qar];exact Qed) (C14.nth 3 rfl) rfl Tryz.underlying39 rfl (by rw[QCF,l0];exact Qb6)) rfl ⟨by rw[HE.out,HC.out,HN.out];rfl,C14.lat⟩
  ·have HE:OE=3:=by rw[hE.out,if_pos hd0]
   have HC:OC=cmd0:=by rw[hC.out,HE,if_neg (by decide)]
   have HN:ON=Z:=by rw[hN.out,HE,if_neg (by simp)]
   have hne:((dE:Int) != 0)=true:=by simp;omega
   replace HE:=hid HE
   replace HC:=hid HC
   replace HN:=hid HN
   clear hE hC hN
   go_wp2_with (first
    | (refine Qb1 rfl rfl _ _ rfl (Blk.new w9 _ cz0) rfl rfl rfl ?_;intro w10 hb10 ho10
       have C10:=C9.push (Qaa _ _) (QCP _) ho10 hb10)
    | (refine Qaj rfl 62 _ rfl (CC cmd0) (by simp only[QCT,QC3];exact hb0) ?_)
    | (refine Qaj rfl 39 _ rfl (Z.map W8) (by simp only[QCT,QC3];exact hbh) ?_)
    | (refine Qb1 rfl rfl _ _ rfl (C10.nth 3 rfl) rfl rfl hz0 ?_;intro w11 hb11 ho11
       have C11:=C10.write 3 rfl ho11 hb11)
    | (refine Qdw rfl rfl _ _ rfl (C11.nth 2 rfl) rfl rfl l0 hzl ?_;intro w12 hb12 ho12
       have C12:=C11.write 2 rfl ho12 hb12)
    | fail)
   exact bodyPost_ret (Qbg rfl _ _ _ _ _ _ _ _ _ _ (C12.nth 3 rfl) rfl Tryz.underlying62 rfl (by rw[Qar];exact Qed) (C12.nth 2 rfl) rfl Tryz.underlying39 rfl (by rw[QCF,l0];exact Qb6)) rfl ⟨by rw[HE.out,HC.out,HN.out];rfl,C12.lat⟩
def Qkx (bs:List UInt8):Prop:=32≤bs.length∧bs.length≤4096
instance (bs:List UInt8):Decidable (Qkx bs):=by unfold Qkx;infer_instance
def okK (ks:List (List UInt8)):Prop:=∀p∈ks,p.length=32
instance (ks:List (List UInt8)):Decidable (okK ks):=by unfold okK;infer_instance
def QfV (rs:List Int) (ks:List (List UInt8)) (bs:List UInt8):List UInt8:=ks.foldl (fun b p=>Qdp p rs b) bs
theorem Qff (rs:List Int):∀(ks:List (List UInt8)) (bs:List UInt8),32≤bs.length→(QfV rs ks bs).length=bs.length
 | [],_,_=>rfl
 | p :: ks,bs,h=>by
   show (QfV rs ks (Qdp p rs bs)).length=_
   have:=QbX p rs bs h
   rw[Qff rs ks _ (by omega),this]
theorem Qg5 (rs:List Int) (ks ks':List (List UInt8)) (bs:List UInt8):QfV rs (ks++ks') bs=QfV rs ks' (QfV rs ks bs):=by rw[QfV,List.foldl_append];rfl
theorem Qp6 (rs:List Int) (ks:List (List UInt8)) (bs:List UInt8) (j:Nat) (h:j<ks.length):QfV rs (ks.take (j+1)) bs=Qdp (ks.getD j []) rs (QfV rs (ks.take j) bs):=by
 rw[QDd h,Qg5,QCK,QCJ h]
 rfl
def allE (ks:List (List UInt8)) (bs:List UInt8):Nat:=if Qkx bs∧okK ks then 0 else 2
def allB (rs:List Int) (ks:List (List UInt8)) (bs:List UInt8):List UInt8:=if Qkx bs∧okK ks then QfV rs ks bs else []
theorem QxZ {rs:List Int} {ks:List (List UInt8)} {bs:List UInt8} (h: ¬(Qkx bs∧okK ks)):allB rs ks bs=[]∧allE ks bs=2:=⟨by rw[allB,if_neg h],by rw[allE,if_neg h]⟩
theorem QmB {rs:List Int} {ks:List (List UInt8)} {bs:List UInt8} (h:Qkx bs∧okK ks):allB rs ks bs=QfV rs ks bs∧allE ks bs=0:=⟨by rw[allB,if_pos h],by rw[allE,if_pos h]⟩
theorem QmT {rs:List Int} (hok:okR rs) {p X:List UInt8} (hp:p.length=32) (h1:32≤X.length) (h2:X.length≤4096):QdF p X rs=0∧Qb9 p X rs=Qdp p rs X:=⟨Qeg hok ⟨hp,h1,h2⟩,Qej hok ⟨hp,h1,h2⟩⟩
set_option maxRecDepth 100000 in
set_option maxHeartbeats 4000000 in
theorem Qt5 (A B:Option Addr) (m d k e0:Nat) (ks:List (List UInt8)) (bs:List UInt8) (w:World) (hb:RdB w B m bs) (hd:m≤d) (hp:Parts w (fun _=>False) A k ks) (hm:m≤2097152) (hk:k≤2097152):
 Calls Tryz.prog 148 #[.func (.func 51) #[] #[],.slice B m d,.slice A k e0] w fun e w'=>Later w w'∧∃A' c',e= .returned (.tuple #[.slice A' (allB rsS ks bs).length c',.int .i64 (allE ks bs:Nat)])∧OwnB w' w.heap.size A' (allB rsS ks bs).length c' (allB rsS ks bs):=by
 have hbl:=hb.len
 have hkl:=hp.len
 have hbad:=hid (fun h=> @QxZ rsS ks bs h)
 have hfit:=hid (fun h=> @QmB rsS ks bs h)
 have hfB:=hid (Qf9 B m d)
 have hone:=hid (fun (A B:Option Addr) (c m d:Nat) (p X:List UInt8) (w:World) h1 hc h2 hd hm=>Qly A B 32 c m d p X w h1 hc h2 hd (by omega) hm)
 have hok:=hid (fun (p X:List UInt8) h h1 h2=> @QmT rsS okS p X h h1 h2)
 have hFt:=hid (fun j h=>Qp6 rsS ks bs j h)
 have hFl:=hid (fun ks h=>Qff rsS ks bs h)
 have hF0:=hid (show QfV rsS (ks.take 0) bs=bs from rfl)
 have hCj:=hid (fun A c w h=>Qcy A 1 c [bs] w h (by omega) (by rw[QbK];omega))
 rw[QbK,hbl]at hCj
 generalize allB rsS ks bs=WB at *
 generalize allE ks bs=WE at *
 go_enter Tryz.func148,Tryz.ntmps148
 go_wp2_with fail
 (with_reducible refine (hfB.out _).mono ?_);rintro e w1 ⟨rfl,rfl⟩
 by_cases hf:32≤m∧m≤4096
 ·rw[decide_eq_true hf]
  go_wp2_with fail
  go_loopw [20] (fun i wr=>∃j:Nat,j≤k∧i= .int .i64 j∧wr=w1∧Hid (∀ t,t<j→(ks.getD t []).length=32)) (fun i _=>k-(intOf i).toNat)
  case atStart=>exact⟨0,by omega,rfl,rfl,hid (fun t h=>by omega)⟩
  case round=>
   obtain⟨j,hj,rfl,rfl,hall⟩:=hrel
   by_cases hlt:j<k
   ·obtain⟨b,o,Ak,nk,ck,rfl,hbb,hck,hcap,hrd,_⟩:=hp.at_ hlt
    have hlen:=hrd.len
    by_cases h32:nk=32
    ·have hS:Hid (∀ t,t<j+1→(ks.getD t []).length=32):=hid (fun t ht=>by
      by_cases e:t=j
      ·rw[e,hlen,h32]
      ·exact hall.out t (by omega))
     have hI:((nk:Int) != 32)=false:=by simp;omega
     clear hlen hrd hcap
     replace h32:=hid h32
     go_wp2_with fail
     go_roundw
     case rel=>exact⟨j+1,by omega,by go_num,trivial,hS⟩
     case measure=>simp[intOf];omega
    ·have hB:=hid (hbad.out (fun h=>h32 (by rw[←hlen];exact h.2 _ (QdC ks j (by omega)))))
     have hI:((nk:Int) != 32)=true:=by simp;omega
     go_wp2_with fail
     go_ret2
     refine⟨Later.refl _,none,0,?_,?_⟩
     ·rw[hB.out.1,hB.out.2];rfl
     ·rw[hB.out.1];exact Qcq _ _ _
   ·obtain rfl:k=j:=by omega
    have hF:=hid (hfit.out ⟨by rw[Qkx,hbl];exact hf,fun p hp'=>by
     obtain⟨t,ht⟩:=List.getElem?_of_mem hp'
     have htl:=(QCV.1 ht).1
     have:=hall.out t (by omega)
     rwa [QCK,ht]at this⟩)
    clear hbad hfit
    go_wp2_with fail
    have J2:=Qaa wr (.cells #[.slice B m d] 22)
    have hpp:=QgS (Blk.new wr 22 [.slice B m d]) (Qdy (hb.later J2) hd)
    (with_reducible refine (hCj.out _ _ _ hpp).mono ?_);rintro e w3 ⟨A3,c3,rfl,hown3,j3⟩
    have L3:=J2.trans j3
    replace hown3:=hown3.mono J2.size
    go_wp2_with fail
    go_loopw [10,33] (fun v i wr'=>∃(j:Nat) (A':Option Addr) (c':Nat),j≤k∧i= .int .i64 j∧v= .slice A' m c'∧OwnB wr' wr.heap.size A' m c' (QfV rsS (ks.take j) bs)∧Later wr wr') (fun _ i _=>k-(intOf i).toNat)
    case atStart=>exact⟨0,A3,c3,by omega,rfl,rfl,by rw[hF0.out];exact hown3,L3⟩
    case round=>
     clear hown3 L3 hpp J2 j3
     rename_i _ _ wz
     obtain⟨j,A4,c4,hj,rfl,rfl,hown,L⟩:=hrel
     by_cases hlt:j<k
     ·obtain⟨b,o,Ak,nk,ck,rfl,hbb,hck,hcap,hrd,_⟩:=(hp.later L).at_ hlt
      have hlen:=hrd.len
      have h32:=hall.out j hlt
      rw[h32]at hlen
      subst hlen
      have HF:=hid (hFt.out j (by omega))
      have hXl:=hown.len
      generalize ks.getD j []=p at *
      generalize QfV rsS (ks.take j) bs=X at *
      have hk:=hid (hok.out p X h32 (by omega) (by omega))
      go_wp2_with fail
      (with_reducible refine (hone.out Ak A4 ck m c4 p X _ hrd hcap hown.rd hown.cap (by omega)).mono ?_);rintro e w5 ⟨j5,A5,c5,rfl,ho5⟩
      rw[hk.out.1,hk.out.2,←HF.out]
      rw[hk.out.2,←HF.out]at ho5
      have hl5:=hFl.out (ks.take (j+1)) (by omega)
      rw[hbl]at hl5
      rw[hl5]at ho5 ⊢
      go_wp2_with fail
      go_roundw
      case rel=>exact⟨j+1,A5,c5,by omega,by go_num,rfl,ho5.mono L.size,L.trans j5⟩
      case measure=>simp[intOf];omega
     ·obtain rfl:k=j:=by omega
      have eT:ks.take k=ks:=QCQ (by omega)
      have hl5:=hFl.out ks (by omega)
      rw[eT,←hF.out.1]at hown
      rw[←hF.out.1,hbl]at hl5
      have hWE:=hF.out.2
      go_wp2_with fail
      go_ret2
      exact⟨L,A4,c4,by rw[hl5,hWE];rfl,by rw[hl5];exact hown⟩
 ·rw[decide_eq_false hf]
  have hB:=hid (hbad.out (fun h=>hf (by rw[←hbl];exact h.1)))
  go_wp2_with fail
  go_ret2
  refine⟨Later.refl _,none,0,?_,?_⟩
  ·rw[hB.out.1,hB.out.2];rfl
  ·rw[hB.out.1];exact Qcq _ _ _
theorem Qno (A B:Option Addr) (m d k e0:Nat) (ks:List (List UInt8)) (bs:List UInt8) (w:World) (hb:RdB w B m bs) (hd:m≤d) (hp:Parts w (fun _=>False) A k ks) (hm:m≤2097152) (hk:k≤2097152):
 Calls Tryz.prog 88 #[.slice B m d,.slice A k e0] w fun e w'=>Later w w'∧∃A' c',e= .returned (.tuple #[.slice A' (allB rsS ks bs).length c',.int .i64 (allE ks bs:Nat)])∧OwnB w' w.heap.size A' (allB rsS ks bs).length c' (allB rsS ks bs):=by
 have h:=hid (Qt5 A B m d k e0 ks bs w hb hd hp hm hk)
 generalize allB rsS ks bs=X at *
 generalize allE ks bs=E at *
 go_enter Tryz.func88,Tryz.ntmps88
 go_wp2_with fail
 (refine h.out.mono ?_);rintro e w1 ⟨j1,A1,c1,rfl,ho1⟩
 go_wp2_with fail
 go_ret2
 exact⟨j1,A1,c1,rfl,ho1⟩
end Go.Proofs.YticcbmhcgmhohaaGreat
