/-
  Lemmas for the last text of this claim (part 19 of 20).
-/
import Derived.ArgAppend
import Derived.BigQuiet
import Derived.BigRegion
import Derived.ChangeOld
import Derived.Deep.RegionWith
import Derived.DeepKeys4
import Derived.JoinedCond
import Derived.LaidMore
import Derived.Laws.Append
import Derived.Laws.BytesArg
import Derived.Laws.CopyOwn
import Derived.Laws.Externs
import Derived.Laws.IdiomStrings
import Derived.Laws.Tables
import Derived.Lib.AppendStr
import Derived.Lib.AppendZerosOnto
import Derived.Lib.Mul64
import Derived.Lib.SlBytesConst
import Derived.LoopN
import Derived.Maps.OwnSet
import Derived.OpenShut
import Derived.OrdersHeld
import Derived.ProofKit
import Derived.Shelf.Spec.BitsCarry
import Derived.ShutString
import Derived.Test.YticcbmhcgmhohaaGreatProg
import Derived.Test.YticcbmhcgmhohaaGreatRows
import Derived.WalkKit
import Derived.WalkLawsBesides
import Derived.WalkSpells
import Derived.Test.YticcbmhcgmhohaaGreatPQ
import Derived.Test.YticcbmhcgmhohaaGreatPR
open Array renaming size_push → QEZ
open List renaming replicate → QCC, getElem?_cons_succ → QCD, getElem?_cons_zero → QCE, length_map → QCF, nil_append → QCH, cons_append → QCI, getElem?_eq_getElem → QCJ, getD_eq_getElem?_getD → QCK, setIfInBounds_toArray → QCL, length_append → QCM, set_cons_zero → QCN, set_cons_succ → QCO, take_of_length_le → QCQ, getElem?_append_right → QCR, length_replicate → QCS, map_toArray → QCT, append_assoc → QCU, getElem?_eq_some_iff → QCV, getElem?_append_left → QCW, getElem?_map → QCY, mem_cons → QCZ, map_nil → QC3, length_take → QC5, length_drop → QC6, map_cons → QC9, set_append_right → QDc, take_succ_eq_append_getElem → QDd, append_nil → QDf, map_replicate → QDi, drop_left' → QDj, length_set → QDl, length_cons → QDp, mem_map → QDs, range → QDu, take_left' → QDx, getElem?_drop → QDE, drop_of_length_le → QDM, getElem?_set_ne → QDS, replicate_succ → QDW, drop_zero → QD7, map_take → QD9, drop_eq_nil_of_le → QEc, getElem?_set_self → QEn, getElem?_range → QEs, take_zero → QEw, mem_cons_self → QEJ, drop_append → QET
open Nat renaming le_refl → QCP, lt_of_lt_of_le → QCX, zero_add → QC4, le_trans → QDm, sub_self → QDL, add_zero → QD8, zero_mul → QEA, add_comm → QEB, sub_zero → QE0, le_of_eq → QE1
open Option renaming toList_some → QCG
open UInt64 renaming ofNat → QC7, toNat_ofNat' → QDb, toNat_inj → QEz
set_option linter.all false
namespace Go.Proofs.YticcbmhcgmhohaaGreat
open Go.RowKit
open Go.BigFrame
theorem QbB:(Tryz.prog.info? 28).map (·.size)=some 49:=by kernel_rfl
def st0:List Value:=StC Qa3 (QCC 32 0) (.slice none 0 0)
theorem zc49:st0.length=49:=QcJ _ (by simp) _
theorem Qm2 (b h:Nat) (hle:h≤16) (W:World):(Instr.sliceAt 29 (.pointer (some ⟨b,0,none⟩)) none (some (.int .i64 (h:Int))) none).run Tryz.prog W= .ok (.slice (some ⟨b,0,none⟩) h 16) W:=by
 have ht:Tryz.prog.underlying 29=some (.array 16 28):=Tryz.underlying29
 have he:Tryz.prog.elem 29=28:=by unfold Program.elem;rw[ht]
 have hn:Tryz.prog.arrayLen 29=16:=by unfold Program.arrayLen;rw[ht]
 have ht':Tryz.prog.underlying 29=some (.array (Tryz.prog.arrayLen 29) (Tryz.prog.elem 29)):=by rw[he,hn];exact ht
 have hs:=QbB
 rw[run_sliceAt_array_h (ht:=ht') (h0:=by omega) (h2:=by rw[hn];omega),he,hn]
 cases hq:Tryz.prog.info? 28 with
 | none=>simp[hq]at hs
 | some i=>
   have hsz:i.size=49:=by simpa [hq] using hs
   simp[sizeOf,typeInfo,hq,hsz,slicedAt,QcK]
theorem Qrv (mk:Y16) {own:List UInt8} (ho:own.length=32) (v u:Value):(StC mk own v).set 48 u=StC mk own u:=by
 rw[StC,QDc _ _ (by rw[QCF,mk.2];omega),QCF,mk.2,QDc _ _ (by rw[QCF,ho];omega),QCF,ho]
 rfl
theorem QBR {l vs:List Value} (_h:vs.length≤l.length) {j:Nat} {v:Value} (hj:vs[j]?=some v):(Qao l 0 vs)[j]?=some v:=by
 rw[Qao,QEw,QCH,QCW (QCV.1 hj).1]
 exact hj
theorem QvW {l vs:List Value} {j:Nat} (hj:vs.length≤j):(Qao l 0 vs)[j]?=l[j]?:=by
 rw[Qao,QEw,QCH,QCR hj,QDE]
 congr 1
 omega
theorem Qmf:(Tryz.prog.info? 25).map (·.size)=some 32:=by kernel_rfl
set_option maxRecDepth 100000 in
set_option maxHeartbeats 8000000 in
theorem QuB (g:Nat) (l:List Value) (hl:l.length=785) (hl0:l[784]?=some (.int .i64 0)) (mk:Y16) (own:List UInt8) (ho:own.length=32) (AP:Option Addr) (n cp:Nat) (hn:0<n) (hn5:n≤5) (PY:List Y32) (b o c:Nat) (w:World) (hb:Blk w g 31 l)
 (hP:RdF FY 32 QbY w AP n PY) (hbw:b<w.heap.size) (hc:∀(j:Nat) (v:Value),(StC mk own (.slice AP n cp))[j]?=some v→w.cell? ⟨b,o+j,none⟩=some v):
 Calls Tryz.prog 13 #[.pointer (some ⟨g,0,none⟩),.slice (some ⟨b,o,none⟩) 1 c] w fun e w'=>e= .returned (.int .i64 0)∧∃A' c' l',Blk w' g 31 l'∧l'.length=785∧l'[784]?=some (.int .i64 1)∧(∀ (j:Nat) (v:Value),(StC mk own (.slice A' n c'))[j]?=some v→l'[j]?=some v)∧RdF FY 32 QbY w' A' n PY∧Only g w w':=by
 have hpl:=hP.1
 have c784:=hb.cellD 784 hl0
 have hSl:=hid (fun v=>QcJ mk ho v)
 have hz:=hid zc49
 have hcu:∀W,(Instr.sliceAt 29 (.pointer (some ⟨g,0,none⟩)) none (some (.int .i64 0)) none).run Tryz.prog W= .ok (.slice (some ⟨g,0,none⟩) 0 16) W:=fun W=>Qm2 g 0 (by omega) W
 have hl16:(mk.val.map W8).length=16:=by rw[QCF,mk.2]
 replace hl16:=hid hl16
 replace hl:=hid hl
 replace hpl:=hid hpl
 have n32:n*32≤140737488355328:=by omega
 go_enter Tryz.func13,Tryz.ntmps13
 go_wp2_with fail
 go_loopw [12] (fun v12 wr=>(v12= .int .i64 0∧wr=w)∨(v12= .int .i64 1∧∃A' c' l',Blk wr g 31 l'∧l'.length=785∧l'[784]?=some (.int .i64 1)∧(∀ (j:Nat) (v:Value),(StC mk own (.slice A' n c'))[j]?=some v→l'[j]?=some v)∧RdF FY 32 QbY wr A' n PY∧Only g w wr)) (fun v _=>1-(intOf v).toNat)
 case atStart=>exact .inl ⟨rfl,rfl⟩
 case round=>
  rcases hrel with ⟨rfl,rfl⟩|⟨rfl,h⟩
  ·have hat:=hid hc
   have B0:Bag wr wr []:=Bag.none wr
   go_wp2_with (first
    | (refine go_l rfl ?_;refine Qan ?hw 28 _ rfl b o (StC mk own (.slice AP n cp)) hat.out rfl _ Tryz.underlying28 rfl (by rw[hSl.out];exact QbB) ?_;(case hw=>rfl))
    | (refine QaZ rfl ?_;refine QaC rfl rfl _ _ _ rfl wr.heap.size _ _ (StC mk own (.slice AP n cp)) (Blk.new wr _ st0) rfl rfl 49 QbB (hSl.out _) hz.out (Qe5 mk own rfl) ?_;intro w2 hb2 ho2
       have l2:Later wr w2:=(Qaa wr _).only ho2 (QCP _)
       have C2:=B0.fresh l2 (QCP _) hb2
       have d784:=(hb.later l2).cellD 784 hl0)
    | fail)
   have C3:=C2.drew
   have hb3:=(hb.later l2).drew
   have e784:=hb3.cellD 784 hl0
   have lg3:=hb3.lt
   refine Qag [([0,1,2,3,4,5,6,7,8,9],10)] [11,12,13,14,15] [] (by as_aux_lemma=>kernel_rfl) (by as_aux_lemma=>kernel_rfl) (by intro _ _ d _ _ h;cases d<;>exact h) ?_
   simp only[Qah,pick,QCD,QCE,QCG,QCI,QCH]
   repeat (first|go_big_quiet_skip|(go_big_quiet_want;(refine Qav 24 _ rfl wr.heap.size 0 (mk.val.map W8) (fun w' hw j v hv=>by obtain⟨y,rfl⟩:=hw;rw[QC4];exact ((C3.later ⟨y,rfl⟩).nth 0 rfl).cellD j (QvX mk own _ j v hv)) rfl _ Tryz.underlying24 rfl (by rw[hl16.out];exact Qfg) ?_);simp only[Act.put,QCL,QCO,QCN];go_big_quiet_on)|(go_big_quiet_step (fail)))
   refine wpQuiet_nil ?_
   go_wp2_with fail
   (refine (Qjx mk (some ⟨g,0,none⟩) 16 _).mono ?_);rintro e w4 ⟨rfl,j4⟩
   have C4:=C3.later j4
   clear C2 C3 e784 lg3 hb3 d784
   go_wp2_with fail
   try refine⟨by first|assumption|exact Qab _|exact Qaa _ _|exact Later.refl _,?_⟩
   try simp only[Qah,pick,QCD,QCE,QCG,QCI,QCH]
   repeat (go_big_quiet_step (fail))
   refine wpQuiet_nil ?_
   have z48:=(C4.nth 0 rfl).cellD 48 (Qfj mk ho _)
   have hfl:((QCC n QbY).flatMap FY).length=n*32:=by rw[Qbk Qb3,QCS]
   replace hfl:=hid hfl
   go_wp2_with (first
    | (refine Qey Qb3 (by omega) QbY rfl _ _ _ rfl 25 32 Tryz.underlying26 QAd _ _ _ _ n rfl rfl rfl rfl (by omega) n32 ?_;intro w5 hb5 hl5
       have C5:=C4.fresh hl5 (QCP _) hb5
       have z48':=(C5.nth 1 rfl).cellD 48 (Qfj mk ho _))
    | (refine Qj8 Qb3 QvH (by omega) rfl _ _ _ _ rfl 25 Tryz.underlying26 Qmf w4.heap.size n n hn _ _ (C5.nth 0 rfl) hfl.out AP cp PY (hP.later C5.lat) rfl rfl ?_;intro w6 hb6 ho6
       have C6:=C5.write 0 rfl ho6 hb6)
    | (refine QaZ rfl ?_;refine Qad rfl rfl _ _ _ rfl wr.heap.size 48 _ _ (C6.nth 1 rfl) rfl (by rw[hSl.out];omega) rfl (by kernel_rfl) ?_;intro v7 w7 hv7 hb7 ho7;simp[go_sem]at hv7;subst hv7
       rw[Qrv mk ho]at hb7
       have C7:=C6.write 1 rfl ho7 hb7)
    | fail)
   have C8:=C7.drew
   have hb8:=hb.later C8.lat
   have e784:=hb8.cellD 784 hl0
   have lg8:=hb8.lt
   have hlt:g<wr.heap.size:=hb.lt
   have hS:=hSl.out (.slice (some ⟨w4.heap.size,0,none⟩) n n)
   have hS1:=Qe5 mk own (v:=.slice (some ⟨w4.heap.size,0,none⟩) n n) rfl
   replace hS:=hid hS
   clear C4 C5 C6 C7 z48 z48' hb5 hl5 hb6 ho6 hb7 ho7
   refine Qag [] [0,1,2,3,4,5,6,7,8] [9] (by as_aux_lemma=>kernel_rfl) (by as_aux_lemma=>kernel_rfl) (by intro _ _ d _ _ h;cases d<;>exact h) ?_
   simp only[Qah,pick,QCD,QCE,QCG,QCI,QCH]
   repeat (first|go_big_quiet_skip|(go_big_quiet_want;(refine Qav 28 _ rfl wr.heap.size 0 (StC mk own (.slice (some ⟨w4.heap.size,0,none⟩) n n)) (fun w' hw j v hv=>by obtain⟨y,rfl⟩:=hw;rw[QC4];exact ((C8.later ⟨y,rfl⟩).nth 1 rfl).cellD j hv) rfl _ Tryz.underlying28 rfl (by rw[hS.out];exact QbB) ?_);simp only[Act.put,QCL,QCO,QCN];go_big_quiet_on)|(go_big_quiet_step (fail)))
   refine wpQuiet_nil ?_
   go_wp2_with (first
    | (refine QaZ rfl ?_;refine Qaf rfl rfl _ _ _ rfl g 0 _ _ (StC mk own (.slice (some ⟨w4.heap.size,0,none⟩) n n)) hb8 rfl rfl (by rw[hS.out];exact QbB) (by rw[hS.out,hl.out];omega) hS1 ?_;intro w9 hb9 ho9
       have f784:=hb9.cellD 784 ((QvW (by rw[hS.out];omega)).trans hl0)
       have lg9:=hb9.lt)
    | (refine QaZ rfl ?_;refine Qad rfl rfl _ _ _ rfl g 784 _ _ hb9 rfl (by rw[QbJ _ _ _ (by rw[hS.out,hl.out];omega),hl.out];omega) rfl (by kernel_rfl) ?_;intro v10 w10 hv10 hb10 ho10;simp[go_sem]at hv10;subst hv10)
    | fail)
   have hrow:=((C8.nth 0 rfl).only ho9 (by have:=(C8.low _ (QEJ ..));omega)).only ho10 (by have:=(C8.low _ (QEJ ..));omega)
   have hsl:(Qao l 0 (StC mk own (.slice (some ⟨w4.heap.size,0,none⟩) n n))).length=785:=by rw[QbJ _ _ _ (by rw[hS.out,hl.out];omega),hl.out]
   refine⟨.inr ⟨rfl,some ⟨w4.heap.size,0,none⟩,n,_,hb10,?_,?_,?_,?_,?_⟩,by simp[intOf]⟩
   ·rw[QDl]
    exact hsl
   ·rw[QEn (by rw[hsl];omega)]
   ·intro j v hv
    have hj:j<49:=by
     have:=(QCV.1 hv).1
     rwa [hS.out]at this
    rw[QDS (by omega)]
    exact QBR (by rw[hS.out,hl.out];omega) hv
   ·exact Qmu Qb3 hrow hpl.out
   ·exact ((Only.later (World.grownBy.refl wr _) C8.lat).trans ho9).trans ho10
  ·obtain⟨A',c',l',h1,h2,h3,h4,h5,h6⟩:=h
   go_wp2_with fail
   go_ret
   exact⟨rfl,A',c',l',h1,h2,h3,h4,h5,h6⟩
section
variable {P:Program} {ops:Array Oper} {rest:List Oper} {o:Oper} {a:Act} {w:World} {Q:Exit→Act→World→Prop}
theorem Qhl {sz:Nat} (hgd:o.guard=none) (dd s:Operand) (dT sT:TypeId) (ho:o.op= .call { callee:=.builtin .copy,args:= #[dd,s],argTypes:= #[dT,sT] }) (elem:TypeId) (hu:P.underlying dT=some (.slice elem)) (hsz:(P.info? elem).map (·.size)=some sz)
 (b1 b2:Addr) (c1 c2:Nat) (hd:a.eval dd= .slice (some b1) 0 c1) (hs:a.eval s= .slice (some b2) 0 c2) (h:wpList P ops Q rest (a.put o.dst (.int .i64 0)) w):wpList P ops Q (o :: rest) a w:=by
 have hrun:(Builtin.copy_ #[dT,sT] o.type #[.slice (some b1) 0 c1,.slice (some b2) 0 c2]).run P w= .ok (goInt 0) w:=by
  cases hq:P.info? elem with
  | none=>simp[hq]at hsz
  | some i=>simp[Builtin.copy_,run_underlying hu,Builtin.lenOf,Builtin.firstCells,sizeOf,typeInfo,hq,storeCells,loadCells,loadCellsFrom]
 refine wpList_plain hgd fun K hK=>?_
 unfold Oper.wp
 simp[execOp,ho,resolve,invoke,builtin,hd,hs,hrun,Result.andThen]
 exact hK _ _ h
end
theorem QsO (b l h:Nat) (hlh:l≤h) (hle:h<16) (W:World):(Instr.sliceAt 29 (.pointer (some ⟨b,0,none⟩)) (some (.int .i64 (l:Int))) (some (.int .i64 (h:Int))) none).run Tryz.prog W= .ok (.slice (some ⟨b,l*49,none⟩) (h-l) (16-l)) W:=by
 have ht:Tryz.prog.underlying 29=some (.array 16 28):=Tryz.underlying29
 have he:Tryz.prog.elem 29=28:=by unfold Program.elem;rw[ht]
 have hn:Tryz.prog.arrayLen 29=16:=by unfold Program.arrayLen;rw[ht]
 have ht':Tryz.prog.underlying 29=some (.array (Tryz.prog.arrayLen 29) (Tryz.prog.elem 29)):=by rw[he,hn];exact ht
 have hs:=QbB
 rw[run_sliceAt_array_lh (ht:=ht') (h0:=by omega) (h1:=by omega) (h2:=by rw[hn];omega),he,hn]
 cases hq:Tryz.prog.info? 28 with
 | none=>simp[hq]at hs
 | some i=>
   have hsz:i.size=49:=by simpa [hq] using hs
   have: ¬ 16=l:=by omega
   simp[sizeOf,typeInfo,hq,hsz,slicedAt,QcK,this]
theorem Qls:Tryz.prog.built 28 []=some st0.toArray:=by kernel_rfl
set_option maxRecDepth 100000 in
set_option maxHeartbeats 4000000 in
theorem QmA (g:Nat) (l:List Value) (hl0:l[784]?=some (.int .i64 0)) (mk:Y16) (A:Option Addr) (n c:Nat) (w:World) (hb:Blk w g 31 l):
 Calls Tryz.prog 6 #[.pointer (some ⟨g,0,none⟩),.agg (mk.val.map W8).toArray,.slice A n c] w fun e w'=>e= .returned (.tuple #[.slice none 0 0,.int .i64 4])∧Later w w':=by
 have B0:=QaW w 24 (mk.val.map W8)
 have hcu:∀W,(Instr.sliceAt 29 (.pointer (some ⟨g,0,none⟩)) none (some (.int .i64 0)) none).run Tryz.prog W= .ok (.slice (some ⟨g,0,none⟩) 0 16) W:=fun W=>Qm2 g 0 (by omega) W
 have hl16:(mk.val.map W8).length=16:=by rw[QCF,mk.2]
 replace hl16:=hid hl16
 have C3:=B0.drew
 have hb3:=hb.later C3.lat
 have e784:=hb3.cellD 784 hl0
 have lg3:=hb3.lt
 go_enter Tryz.func6,Tryz.ntmps6
 go_wp2_with fail
 refine Qag [([0,1,2,3,4,5,6,7,8],9)] [10,11,12,13,14] [] (by as_aux_lemma=>kernel_rfl) (by as_aux_lemma=>kernel_rfl) (by intro _ _ d _ _ h;cases d<;>exact h) ?_
 simp only[Qah,pick,QCD,QCE,QCG,QCI,QCH]
 repeat (first|go_big_quiet_skip|(go_big_quiet_want;(refine Qav 24 _ rfl w.heap.size 0 (mk.val.map W8) (fun w' hw j v hv=>by obtain⟨y,rfl⟩:=hw;rw[QC4];exact ((C3.later ⟨y,rfl⟩).nth 0 rfl).cellD j hv) rfl _ Tryz.underlying24 rfl (by rw[hl16.out];exact Qfg) ?_);simp only[Act.put,QCL,QCO,QCN];go_big_quiet_on)|(go_big_quiet_step (fail)))
 refine wpQuiet_nil ?_
 go_wp2_with fail
 (refine (Qjx mk (some ⟨g,0,none⟩) 16 _).mono ?_);rintro e w4 ⟨rfl,j4⟩
 go_wp2_with fail
 try refine⟨by first|assumption|exact Qab _|exact Qaa _ _|exact Later.refl _,?_⟩
 try simp only[Qah,pick,QCD,QCE,QCG,QCI,QCH]
 repeat (go_big_quiet_step (fail))
 refine wpQuiet_nil ?_
 go_wp2_with fail
 go_ret2
 exact⟨rfl,C3.lat.trans j4⟩
set_option maxRecDepth 100000 in
set_option maxHeartbeats 8000000 in
theorem Qqe (g:Nat) (l:List Value) (hl:l.length=785) (hl1:l[784]?=some (.int .i64 1)) (mk:Y16) (own body:List UInt8) (ho:own.length=32) (AP:Option Addr) (n cp:Nat) (hn5:n≤5) (PY:List Y32) (A:Option Addr) (c:Nat) (w:World) (hb:Blk w g 31 l)
 (hS:∀(j:Nat) (v:Value),(StC mk own (.slice AP n cp))[j]?=some v→l[j]?=some v) (hP:RdF FY 32 QbY w AP n PY) (hr:RdB w A 480 body) (hc:480≤c)
 (hE:parE (decB own (PY.map (·.val)) body)=0) (hkd:(parP (decB own (PY.map (·.val)) body)).kd=3):
 Calls Tryz.prog 6 #[.pointer (some ⟨g,0,none⟩),.agg (mk.val.map W8).toArray,.slice A 480 c] w fun e w'=>∃A' c' l',e= .returned (.tuple #[.slice A' (parP (decB own (PY.map (·.val)) body)).da.length c',.int .i64 0])∧
  OwnB w' w.heap.size A' (parP (decB own (PY.map (·.val)) body)).da.length c' (parP (decB own (PY.map (·.val)) body)).da∧Blk w' g 31 l'∧l'[784]?=some (.int .i64 0)∧Only g w w':=by
 have hDe:=hid (fun A2 c2 w h1 h2 h3=>QmY mk own body ho AP n cp (PY.map (·.val)) A2 c2 w h1 (fun p hp=>by obtain⟨y,_,rfl⟩:=QDs.1 hp;exact y.2) hn5 h2 h3 hE hkd)
 clear hE hkd
 generalize parP (decB own (PY.map (·.val)) body)=PP at *
 have B0:=QaW w 24 (mk.val.map W8)
 have hcu:∀W,(Instr.sliceAt 29 (.pointer (some ⟨g,0,none⟩)) none (some (.int .i64 1)) none).run Tryz.prog W= .ok (.slice (some ⟨g,0,none⟩) 1 16) W:=fun W=>Qm2 g 1 (by omega) W
 have hcu2:∀W,(Instr.sliceAt 29 (.pointer (some ⟨g,0,none⟩)) (some (.int .i64 0)) (some (.int .i64 0)) none).run Tryz.prog W= .ok (.slice (some ⟨g,0,none⟩) 0 16) W:=fun W=>by
  have:=QsO g 0 0 (by omega) (by omega) W
  simpa using this
 have hcu3:∀W,(Instr.sliceAt 29 (.pointer (some ⟨g,0,none⟩)) (some (.int .i64 1)) (some (.int .i64 1)) none).run Tryz.prog W= .ok (.slice (some ⟨g,49,none⟩) 0 15) W:=fun W=>by
  have:=QsO g 1 1 (by omega) (by omega) W
  simpa using this
 have hl16:(mk.val.map W8).length=16:=by rw[QCF,mk.2]
 have hSl:=QcJ mk ho (.slice AP n cp)
 replace hl16:=hid hl16
 replace hSl:=hid hSl
 replace hl:=hid hl
 have C3:=B0.drew
 have hb3:=hb.later C3.lat
 have e784:=hb3.cellD 784 hl1
 have lg3:=hb3.lt
 go_enter Tryz.func6,Tryz.ntmps6
 go_wp2_with fail
 refine Qag [([0,1,2,3,4,5,6,7,8],9)] [10,11,12,13,14] [] (by as_aux_lemma=>kernel_rfl) (by as_aux_lemma=>kernel_rfl) (by intro _ _ d _ _ h;cases d<;>exact h) ?_
 simp only[Qah,pick,QCD,QCE,QCG,QCI,QCH]
 repeat (first|go_big_quiet_skip|(go_big_quiet_want;(refine Qav 24 _ rfl w.heap.size 0 (mk.val.map W8) (fun w' hw j v hv=>by obtain⟨y,rfl⟩:=hw;rw[QC4];exact ((C3.later ⟨y,rfl⟩).nth 0 rfl).cellD j hv) rfl _ Tryz.underlying24 rfl (by rw[hl16.out];exact Qfg) ?_);simp only[Act.put,QCL,QCO,QCN];go_big_quiet_on)|(go_big_quiet_step (fail)))
 refine wpQuiet_nil ?_
 go_wp2_with fail
 (refine (QmG mk g 0 16 _ hb3.lt (fun j v hv=>by rw[QC4];exact hb3.cellD j (hS j v (QvX mk own _ j v hv)))).mono ?_);rintro e w4 ⟨rfl,j4⟩
 have L4:=C3.lat.trans j4
 have hb4:=hb.later L4
 clear B0 C3 hb3 e784 lg3
 go_wp2_with fail
 try refine⟨by first|assumption|exact Qab _|exact Qaa _ _|exact Later.refl _,?_⟩
 try simp only[Qah,pick,QCD,QCE,QCG,QCI,QCH]
 repeat (go_big_quiet_step (fail))
 refine wpQuiet_nil ?_
 go_wp2_with (first
  | (refine go_l rfl ?_;refine Qan ?hw 28 _ rfl g 0 (StC mk own (.slice AP n cp)) (fun j v hv=>by rw[QC4];exact hb4.cellD j (hS j v hv)) rfl _ Tryz.underlying28 rfl (by rw[hSl.out];exact QbB) ?_;(case hw=>rfl))
  | fail)
 (refine (hDe.out _ _ _ (QzL (hP.later L4)) (hr.later L4) hc).mono ?_);rintro e w5 ⟨A5,c5,rfl,o5,j5⟩
 have L5:=L4.trans j5
 have hb5:=hb.later L5
 have f784:=hb5.cellD 784 hl1
 have lg5:=hb5.lt
 have o5':=Qc3 o5 L4.size
 go_wp2_with (first
  | (refine QaZ rfl ?_;refine Qad rfl rfl _ _ _ rfl g 784 _ _ hb5 rfl (by rw[hl.out];omega) rfl (by kernel_rfl) ?_;intro v6 w6 hv6 hb6 ho6;simp[go_sem]at hv6;subst hv6)
  | fail)
 have hl6:(l.set 784 (Value.int .i64 0)).length=785:=by rw[QDl,hl.out]
 have hl60:(l.set 784 (Value.int .i64 0))[784]?=some (.int .i64 0):=by rw[QEn (by rw[hl.out];omega)]
 generalize l.set 784 (Value.int .i64 0)=m6 at *
 have o6:=Qa5 (QdA o5' hb5 (by decide) ho6) (Qab w6)
 have hb7:=hb6.drew
 have k784:=hb7.cellD 784 hl60
 have lg7:=hb7.lt
 refine Qag [] [0,1,2,3,4,5,6,7,8,9,10,11,12,13,14,15,16,17,18,19] [20] (by as_aux_lemma=>kernel_rfl) (by as_aux_lemma=>kernel_rfl) (by intro _ _ d _ _ h;cases d<;>exact h) ?_
 simp only[Qah,pick,QCD,QCE,QCG,QCI,QCH]
 repeat (go_big_quiet_step (fail))
 refine wpQuiet_nil ?_
 go_wp2_with (first
  | (refine Qhl rfl _ _ _ _ rfl 28 Tryz.underlying87 QbB _ _ 16 15 rfl rfl ?_)
  | fail)
 have o7:=Qa5 o6 (Qab w6.drew)
 have hb8:=hb7.drew
 have q784:=hb8.cellD 784 hl60
 have lg8:=hb8.lt
 have hst:=hid Qls
 have hz:=hid zc49
 replace hl6:=hid hl6
 simp only[Act.put,QCL,QCO,QCN]
 refine Qag [] [0,1,2,3,4,5,6,7,8] [9] (by as_aux_lemma=>kernel_rfl) (by as_aux_lemma=>kernel_rfl) (by intro _ _ d _ _ h;cases d<;>exact h) ?_
 simp only[Qah,pick,QCD,QCE,QCG,QCI,QCH]
 repeat (first|go_big_quiet_skip|(go_big_quiet_want;(refine Qfh _ _ rfl st0 (by first|exact hst.out|(simp only[QCT];exact hst.out)|(simp only[QC3];exact hst.out)) ?_);simp only[Act.put,QCL,QCO,QCN];go_big_quiet_on)|(go_big_quiet_step (fail)))
 refine wpQuiet_nil ?_
 go_wp2_with (first
  | (refine QaZ rfl ?_;refine Qaf rfl rfl _ _ _ rfl g 0 _ _ st0 hb8 rfl rfl (by rw[hz.out];exact QbB) (by rw[hz.out,hl6.out];omega) (Qe5 _ _ rfl) ?_;intro w9 hb9 ho9)
  | fail)
 go_ret2
 exact⟨A5,c5,_,rfl,QdA o7 hb8 (by decide) ho9,hb9,(QvW (by rw[hz.out];omega)).trans hl60,((((Only.later (World.grownBy.refl w _) L5).trans ho6).later (Qab _)).later (Qab _)).trans ho9⟩
def fiL (n:UInt64) (j:Nat):List UInt8:=(bigB 8 n.toNat).take j++QCC (8-j) 0
theorem Qqh (n:UInt64) (j:Nat) (h:j≤8):(fiL n j).length=8:=by
 rw[fiL,QCM,QC5,QCS,Qap]
 omega
theorem QwE (n:UInt64):fiL n 8=bigB 8 n.toNat:=by
 rw[fiL,QDL,List.replicate_zero,QDf,QCQ (by rw[Qap];omega)]
theorem QtE (n:UInt64) (j:Nat) (h:j<8):(fiL n j).set j ((QeY n (8*(7-j))).toUInt8)=fiL n (j+1):=by
 have hl:((bigB 8 n.toNat).take j).length=j:=by rw[QC5,Qap];omega
 rw[fiL,fiL,Qxk n j h,QDc _ _ (by omega),hl,QDL,show 8-j=8-(j+1)+1 by omega,QDW,QCN,QCU]
 rfl
theorem QuH (n:UInt64):(fiL n 0).map W8=QCC 8 (W8 0):=by
 rw[fiL,QEw,QCH,QDi]
def bkB (h:List UInt8) (fi:UInt64) (ky:List UInt8):List UInt8:=bigB 8 fi.toNat++(h++ky)
theorem QlA (h:List UInt8) (fi:UInt64) (ky:List UInt8):[bigB 8 fi.toNat,h,ky].flatten=bkB h fi ky:=by
 simp[bkB]
theorem QoZ {h ky:List UInt8} (fi:UInt64) (hh:h.length=288) (hk:ky.length=32):(bkB h fi ky).length=328:=by
 rw[bkB,QCM,QCM,Qap,hh,hk]
theorem QzO (h:List UInt8) (fi:UInt64) (ky:List UInt8):QC7 (beN (subB (bkB h fi ky) 0 8) 0)=fi:=by
 rw[bkB,subB,QD7,QDx (Qap _ _),Qfk]
 apply QEz.1
 rw[QDb]
 have:=fi.toNat_lt
 omega
theorem QyV {h:List UInt8} (fi:UInt64) (ky:List UInt8) (hh:h.length=288):subB (bkB h fi ky) 8 288=h:=by
 rw[bkB,subB,QDj (Qap _ _),QDx hh]
theorem QzC {h ky:List UInt8} (fi:UInt64) (hh:h.length=288) (hk:ky.length=32):subB (bkB h fi ky) 296 32=ky:=by
 rw[bkB,subB,←QCU,QDj (by rw[QCM,Qap,hh]),QCQ (by omega)]
theorem Qbb:(Tryz.prog.info? 42).map (·.size)=some 321:=by kernel_rfl
set_option maxRecDepth 100000 in
set_option maxHeartbeats 4000000 in
theorem Qps (h:List UInt8) (hh:h.length=288) (fi:UInt64) (ky:List UInt8) (hk:ky.length=32) (w:World):
 Calls Tryz.prog 12 #[.agg (BkC h fi ky).toArray] w fun e w'=>∃A' c',e= .returned (.slice A' 328 c')∧OwnB w' w.heap.size A' 328 c' (bkB h fi ky)∧Later w w':=by
 have C1:=QaW w 42 (BkC h fi ky)
 have hst:=hid (QtE fi)
 have hfl:=hid (Qqh fi)
 have hall:=hid (QwE fi)
 have hz0:=hid (QuH fi)
 have hHb:=hid (fun w=>Qjd h hh w)
 have hbl:=QoZ fi hh hk
 have h8l:=Qap 8 fi.toNat
 have hJ:=hid (fun B d (w:World) hp=>Qcy B 3 d [bigB 8 fi.toNat,h,ky] w hp (by omega) (by rw[QlA];omega))
 rw[QlA,hbl]at hJ
 have hfi:=hid (Qox fi ky hh)
 have hhl:(h.map W8).length=288:=by rw[QCF,hh]
 replace hhl:=hid hhl
 replace hbl:=hid hbl
 go_enter Tryz.func12,Tryz.ntmps12
 go_wp2_with fail
 have hsz:(w.alloc (.cells (BkC h fi ky).toArray 42)).heap.size=w.heap.size+1:=by simp only[World.alloc,QEZ]
 have Cb:=C1.fresh (k:=w.heap.size+1) (t:=174) (l:=(fiL fi 0).map W8) (Qaa _ (.cells (QCC 8 (W8 0)).toArray 174)) (QE1 hsz) ((Blk.new' _ _ (QCC 8 (W8 0)) hsz).cast hz0.out.symm)
 clear hsz
 go_loopw [5] (fun i wr=>∃j:Nat,j≤8∧i= .int .i64 j∧Bag w wr [(w.heap.size+1,174,(fiL fi j).map W8),(w.heap.size,42,BkC h fi ky)]) (fun i _=>8-(intOf i).toNat)
 case atStart=>exact⟨0,by omega,rfl,Cb⟩
 case round=>
  clear Cb C1
  obtain⟨j,hj,rfl,B⟩:=hrel
  by_cases hlt:j<8
  ·have hge:(0:Int)≤7-(j:Int):=by omega
   have e8:((8:Int)*(7-(j:Int))).toNat=8*(7-j):=by omega
   have hsj:=hid (hst.out j hlt)
   have hlj:=hfl.out j (by omega)
   have c288:=(B.nth 1 rfl).cellD _ hfi.out
   have lg:=(B.nth 1 rfl).lt
   generalize fiL fi j=PJ at *
   go_wp2_with (first
    | (refine QaZ rfl ?_;refine Qad rfl rfl _ _ _ rfl (w.heap.size+1) j _ _ (B.nth 0 rfl) rfl (by rw[QCF,hlj];omega) rfl (by kernel_rfl) ?_;intro v4 w4 hv4 hb4 ho4;simp[go_sem]at hv4;subst hv4)
    | fail)
   rw[Qci,hsj.out]at hb4
   exact⟨⟨j+1,by omega,by go_num,B.write 0 rfl ho4 hb4⟩,by simp[intOf];omega⟩
  ·obtain rfl:j=8:=by omega
   rw[hall.out]at B
   have BD:=B.drew
   go_wp2_with fail
   refine Qag [([0,1,2,4,5],3),([],6),([],7)] [8] [] (by as_aux_lemma=>kernel_rfl) (by as_aux_lemma=>kernel_rfl) (by intro _ _ d _ _ h;cases d<;>exact h) ?_
   simp only[Qah,pick,QCD,QCE,QCG,QCI,QCH]
   repeat (first|go_big_quiet_skip|(go_big_quiet_want;(refine Qav 39 _ rfl w.heap.size 0 (h.map W8) (fun w' hw j v hv=>by obtain⟨y,rfl⟩:=hw;rw[QC4];exact ((BD.later ⟨y,rfl⟩).nth 1 rfl).cellD j (QvM fi ky j v hv)) rfl _ Tryz.underlying39 rfl (by rw[hhl.out];exact Qb6) ?_);simp only[Act.put,QCL,QCO,QCN];go_big_quiet_on)|(go_big_quiet_step (fail)))
   refine wpQuiet_nil ?_
   go_wp2_with fail
   (refine (hHb.out _).mono ?_);rintro e w4 ⟨A4,c4,rfl,o4,j4⟩
   have B4:=BD.later j4
   clear BD B hHb
   go_wp2_with fail
   try refine⟨by first|assumption|exact Qab _|exact Qaa _ _|exact Later.refl _,?_⟩
   try simp only[Qah,pick,QCD,QCE,QCG,QCI,QCH]
   repeat (go_big_quiet_step (fail))
   refine wpQuiet_nil ?_
   have B5:=B4.later (Qaa w4 (.cells #[.slice (some ⟨w.heap.size+1,0,none⟩) 8 8,.slice A4 288 c4,.slice (some ⟨w.heap.size,289,none⟩) 32 32] 22))
   have P5:=Qef (bad:=fun _=>False) (ps:=[bigB 8 fi.toNat,h,ky]) ((Blk.new w4 22 [.slice (some ⟨w.heap.size+1,0,none⟩) 8 8,.slice A4 288 c4,.slice (some ⟨w.heap.size,289,none⟩) 32 32]).rd rfl) (Qbx _ _) ⟨QaM ((B5.nth 0 rfl).rd (by rw[QCF,h8l])) (QCP _),QaM ((OwnB.rd o4).later (Qaa w4 _)) (OwnB.cap o4),QaM (Qdf (B5.nth 1 rfl).lt (fun j v hv=>(B5.nth 1 rfl).cellD _ (QvL fi ky hh j v hv)) hk) (QCP _),trivial⟩
   go_wp2_with fail
   try refine⟨by first|assumption|exact Qab _|exact Qaa _ _|exact Later.refl _,?_⟩
   try simp only[Qah,pick,QCD,QCE,QCG,QCI,QCH]
   repeat (go_big_quiet_step (fail))
   refine wpQuiet_nil ?_
   go_wp2_with fail
   (with_reducible refine (hJ.out _ _ _ P5).mono ?_);rintro e w6 ⟨A6,c6,rfl,o6,j6⟩
   go_wp2_with fail
   try refine⟨by first|assumption|exact Qab _|exact Qaa _ _|exact Later.refl _,?_⟩
   try simp only[Qah,pick,QCD,QCE,QCG,QCI,QCH]
   repeat (go_big_quiet_step (fail))
   refine wpQuiet_nil ?_
   go_wp2_with fail
   go_ret
   exact⟨_,_,rfl,o6.mono B5.lat.size,B5.lat.trans j6⟩
def QiT:List UInt8:=QCC 288 0
def z32H:List UInt8:=QCC 32 0
theorem zcBk:Tryz.zeroCells42.toList=BkC QiT 0 z32H:=by
 rw[BkC,QiT,z32H,QDi,QDi]
 kernel_rfl
theorem QsD:(Tryz.prog.info? 42).bind (·.zero)=some (.agg (BkC QiT 0 z32H).toArray):=by
 rw[BkC,QiT,z32H,QDi,QDi]
 kernel_rfl
theorem QcI:QiT.length=288:=QCS
theorem QbL:z32H.length=32:=QCS
theorem QqB:Tryz.prog.built 42 []=some (BkC QiT 0 z32H).toArray:=by
 rw[QaY (pl:=[(0,288),(288,1),(289,32)]) Tryz.underlying42 QsD (by kernel_rfl),Qb7]
theorem Qwo {h:List UInt8} (fi f2:UInt64) (ky:List UInt8) (hh:h.length=288):Qao (BkC h fi ky) 288 [W64 f2]=BkC h f2 ky:=by
 have hl:(h.map W8).length=288:=by rw[QCF,hh]
 rw[QhI _ _ _ (by rw[BkC,QCM,hl,QDp];omega),BkC,BkC,QDc _ _ (by omega),hl,QDL,QCN]
theorem Qwc {h ky k2:List UInt8} (fi:UInt64) (hh:h.length=288) (hk:ky.length=32) (hk2:k2.length=32):Qao (BkC h fi ky) 289 (k2.map W8)=BkC h fi k2:=by
 have hl:(h.map W8++[W64 fi]).length=289:=by rw[QCM,QCF,hh];rfl
 have e:∀k,BkC h fi k=(h.map W8++[W64 fi])++k.map W8:=fun k=>by simp[BkC]
 rw[e,e,Qao,QDx hl,QDM (by rw[QCM,hl,QCF,QCF,hk,hk2];omega),QDf]
theorem QqA {h:List UInt8} (fi:UInt64) (hh:h.length=288):Tryz.prog.built 42 [(0,.agg (h.map W8).toArray),(1,W64 fi)]=some (BkC h fi z32H).toArray:=by
 have hz:=QcI
 rw[QaY (pl:=[(0,288),(288,1),(289,32)]) Tryz.underlying42 QsD (by kernel_rfl),QaV (vs:=h.map W8) (off:=0) rfl (by rw[QCF,hh];rfl) (by rw[QCF,Qch 0 QcI QbL];omega),BkC,Qgc (by rw[QCF,QCF,hh,hz]),QaV (vs:=[W64 fi]) (off:=288) rfl rfl (by simp[hh,z32H]),Qb7]
 rw[show h.map W8++W64 0 :: z32H.map W8=BkC h 0 z32H from rfl,Qwo 0 fi _ hh]
theorem QsF {h ky:List UInt8} (fi:UInt64) (hh:h.length=288) (hk:ky.length=32):Tryz.prog.built 42 [(0,.agg (h.map W8).toArray),(1,W64 fi),(2,.agg (ky.map W8).toArray)]=some (BkC h fi ky).toArray:=by
 have hz:=QcI
 rw[QaY (pl:=[(0,288),(288,1),(289,32)]) Tryz.underlying42 QsD (by kernel_rfl),QaV (vs:=h.map W8) (off:=0) rfl (by rw[QCF,hh];rfl) (by rw[QCF,Qch 0 QcI QbL];omega),BkC,Qgc (by rw[QCF,QCF,hh,hz]),QaV (vs:=[W64 fi]) (off:=288) rfl rfl (by simp[hh,z32H])]
 rw[show h.map W8++W64 0 :: z32H.map W8=BkC h 0 z32H from rfl,Qwo 0 fi _ hh,QaV (vs:=ky.map W8) (off:=289) rfl (by rw[QCF,hk];rfl) (by rw[QCF,Qch fi hh QbL];omega),Qb7,Qwc fi hh QbL hk]
set_option maxRecDepth 100000 in
set_option maxHeartbeats 4000000 in
theorem Qpe (h:List UInt8) (hh:h.length=288) (fi:UInt64) (hf:fi≠0) (ky:List UInt8) (hk:ky.length=32) (A:Option Addr) (c:Nat) (w:World) (hr:RdB w A 328 (bkB h fi ky)) (hc:328≤c):
 Calls Tryz.prog 11 #[.slice A 328 c] w fun e w'=>e= .returned (.tuple #[.agg (BkC h fi ky).toArray,.int .i64 0])∧Later w w':=by
 obtain⟨b0,p,rfl,hb00,_⟩:=hr.2 (by omega)
 have C1:=QaW w 42 (Tryz.zeroCells42.toList)
 have hG:=hid (fun w hb=>Qgt (some ⟨b0,p,none⟩) 328 c 0 8 (bkB h fi ky) w hb (by omega) (by omega) (by omega) (by omega))
 rw[QzO]at hG
 have hH:=hid (fun c' w hb=>Qqm (some ⟨b0,p+8,none⟩) c' h w hb)
 have h8:=hid (fun w (hb:RdB w (some ⟨b0,p,none⟩) 328 (bkB h fi ky))=>QmW hb 8 288 (by omega) (by omega))
 rw[QyV fi ky hh]at h8
 have h296:=hid (fun w (hb:RdB w (some ⟨b0,p,none⟩) 328 (bkB h fi ky))=>QmW hb 296 32 (by omega) (by omega))
 rw[QzC fi hh hk]at h296
 have hb2:=hid (QqA (h:=h) fi hh)
 have hz:=hid zcBk
 have hzH:=hid zcH
 have hsk:=hid (Qwc (h:=h) (ky:=z32H) (k2:=ky) fi hh QbL hk)
 have l1:=Qch (h:=h) (ky:=z32H) fi hh QbL
 have l2:=Qch fi hh hk
 have l0:=Qch (h:=QiT) (ky:=z32H) 0 QcI QbL
 have q1:=QfW h fi z32H
 have q2:=QfW h fi ky
 have q3:=QaH ky
 have hf0:(fi==0)=false:=by simp[hf]
 clear hf
 replace l0:=hid l0
 replace l1:=hid l1
 replace l2:=hid l2
 generalize BkC h fi z32H=K1 at *
 generalize BkC h fi ky=K2 at *
 generalize bkB h fi ky=BB at *
 generalize z32H=Z32 at *
 generalize QiT=Z288 at *
 go_enter Tryz.func11,Tryz.ntmps11
 go_wp2_with fail
 (refine (hG.out _ (hr.later C1.lat)).mono ?_);rintro e w2 ⟨rfl,j2⟩
 have C2:=C1.later j2
 clear C1 hG
 go_wp2_with fail
 (refine (hH.out _ _ (h8.out _ (hr.later C2.lat)) (by omega)).mono ?_);rintro e w3 ⟨rfl,j3⟩
 have C3:=C2.later j3
 clear C2 hH
 go_wp2_with (first
  | (refine QaZ rfl ?_;refine Qdw rfl rfl _ _ rfl ((Blk.new w3 _ Tryz.zeroCells39.toList).cast hzH.out) rfl rfl hh (by simp) ?_;intro w4 hb4 ho4
     have C4:=C3.push (Qaa _ _) (QCP _) ho4 hb4)
  | (refine go_l rfl ?_;refine Ql6 rfl _ rfl (C4.nth 0 rfl) hh rfl ?_)
  | (refine go_b rfl ?_;refine Qaj ?hw 42 _ rfl K1 (by simp only[QCT,QC9,QC3];exact hb2.out) ?_;(case hw=>rfl))
  | (refine QaZ rfl ?_;refine Qaf rfl rfl _ _ _ rfl w4.heap.size 0 _ _ K1 (Blk.new w4 _ Tryz.zeroCells42.toList) rfl rfl (by rw[l1.out];exact Qbb) (by rw[l1.out,hz.out,l0.out];omega) q1 ?_;intro w5 hb5 ho5
     rw[Qak _ _ (by rw[l1.out,hz.out,l0.out])]at hb5
     have C5:=(C4.push (Qaa _ _) (QCP _) ho5 hb5).drew)
  | fail)
 generalize w4.heap.size=g5 at *
 clear hb4 ho4 hb5 ho5 C3 C4
 refine Qag [] [0,1,2,3] [4] (by as_aux_lemma=>kernel_rfl) (by as_aux_lemma=>kernel_rfl) (by intro _ _ d _ _ h;cases d<;>exact h) ?_
 simp only[Qah,pick,QCD,QCE,QCG,QCI,QCH]
 repeat (go_big_quiet_step (fail))
 refine wpQuiet_nil ?_
 go_wp2_with (first
  | (refine Qas rfl _ _ _ _ rfl 5 Tryz.underlying22 Qbt g5 289 32 32 _ _ (C5.nth 0 rfl) (some ⟨b0,p+296,none⟩) 32 (c-296) (ky.map W8) (h296.out _ (hr.later C5.lat)) q3 rfl rfl (by rw[l1.out];omega) ?_;intro w6 hb6 ho6;rw[QCQ (by rw[QCF,hk];omega),hsk.out]at hb6
     have C6:=C5.write 0 rfl ho6 hb6)
  | (refine go_l rfl ?_;refine Qan ?hw 42 _ rfl g5 0 K2 (fun j v hv=>by rw[QC4];exact (C6.nth 0 rfl).cellD j hv) rfl _ Tryz.underlying42 rfl (by rw[l2.out];exact Qbb) ?_;(case hw=>rfl))
  | (refine QaZ rfl ?_;refine Qaf rfl rfl _ _ _ rfl w.heap.size 0 _ _ K2 (C6.nth 2 rfl) rfl rfl (by rw[l2.out];exact Qbb) (by rw[l2.out,hz.out,l0.out];omega) q2 ?_;intro w7 hb7 ho7
     rw[Qak _ _ (by rw[l2.out,hz.out,l0.out])]at hb7)
  | fail)
 exact bodyPost_ret (Qai rfl _ _ _ _ _ _ hb7 rfl Tryz.underlying42 rfl (by rw[l2.out];exact Qbb)) rfl ⟨rfl,(C6.write 2 rfl ho7 hb7).lat⟩
theorem bag5 (w:World) (t1 t2 t3 t4 t5:TypeId) (l1 l2 l3 l4 l5:List Value):
 Bag w (((((w.alloc (.cells l1.toArray t1)).alloc (.cells l2.toArray t2)).alloc (.cells l3.toArray t3)).alloc (.cells l4.toArray t4)).alloc (.cells l5.toArray t5)) [(w.heap.size+4,t5,l5),(w.heap.size+3,t4,l4),(w.heap.size+2,t3,l3),(w.heap.size+1,t2,l2),(w.heap.size,t1,l1)]:=by
 have h1:=QaW w t1 l1
 have s1:(w.alloc (.cells l1.toArray t1)).heap.size=w.heap.size+1:=by simp only[World.alloc,QEZ]
 have h2:=h1.fresh (Qaa _ (.cells l2.toArray t2)) (QE1 s1) (Blk.new' _ t2 l2 s1)
 generalize w.alloc (.cells l1.toArray t1)=w1 at *
 have s2:(w1.alloc (.cells l2.toArray t2)).heap.size=w.heap.size+2:=by simp only[World.alloc,QEZ];omega
 have h3:=h2.fresh (Qaa _ (.cells l3.toArray t3)) (QE1 s2) (Blk.new' _ t3 l3 s2)
 generalize w1.alloc (.cells l2.toArray t2)=w2 at *
 have s3:(w2.alloc (.cells l3.toArray t3)).heap.size=w.heap.size+3:=by simp only[World.alloc,QEZ];omega
 have h4:=h3.fresh (Qaa _ (.cells l4.toArray t4)) (QE1 s3) (Blk.new' _ t4 l4 s3)
 generalize w2.alloc (.cells l3.toArray t3)=w3 at *
 have s4:(w3.alloc (.cells l4.toArray t4)).heap.size=w.heap.size+4:=by simp only[World.alloc,QEZ];omega
 exact h4.fresh (Qaa _ (.cells l5.toArray t5)) (QE1 s4) (Blk.new' _ t5 l5 s4)
theorem Qyx (mk:Y16):Qcs (lcG 4 mk)=true:=by
 obtain⟨m,hm⟩:=mk
 simp[Qcs,lcG]
theorem Qqj (kd:UInt8) (ma:Y16) (hs:List Hp) (n i:Nat) (h:i<n):(QeP kd ma hs n).getD i cmd0=Qcu (lcG kd ma) hs i:=by
 rw[QeP,QCK,QCY,QEs h]
 rfl
def hdrG (sc:List UInt8) (mk:Y16) (hs:List Hp):List UInt8:=hdrA hs.length (fun i=>encB (Qcu (lcG 4 mk) hs i)) (Qcv sc (pubH hs)) (hs.length-1)
def payG (sc:List UInt8) (hs:List Hp):List Y32:=(QDu hs.length).map fun i=>⟨kPay (Qcv sc (pubH hs) i),Qaq (by rw[Qbj];omega)⟩
theorem Qdv (sc:List UInt8) (hs:List Hp):(payG sc hs).length=hs.length:=by simp[payG]
theorem QnZ (sc:List UInt8) (hs:List Hp) (i:Nat) (h:i<hs.length):((payG sc hs).getD i QbY).val=kPay (Qcv sc (pubH hs) i):=by
 rw[payG,QCK,QCY,QEs h]
 rfl
def payJ (PY:List Y32) (j:Nat):List Y32:=PY.take j++QCC (PY.length-j) QbY
theorem QmP (PY:List Y32) (j:Nat) (h:j≤PY.length):(payJ PY j).length=PY.length:=by
 rw[payJ,QCM,QC5,QCS]
 omega
theorem Qsn (PY:List Y32):payJ PY 0=QCC PY.length QbY:=by rw[payJ,QEw,QCH,QE0]
theorem QtC (PY:List Y32):payJ PY PY.length=PY:=by rw[payJ,QDL,List.replicate_zero,QDf,List.take_length]
theorem Qs7 (PY:List Y32) (j:Nat) (h:j<PY.length):(payJ PY j).set j (PY.getD j QbY)=payJ PY (j+1):=by
 have hl:(PY.take j).length=j:=by rw[QC5];omega
 have hg:PY.take (j+1)=PY.take j++[PY.getD j QbY]:=by
  rw[QDd h,QCK,QCJ h]
  rfl
 rw[payJ,payJ,hg,QDc _ _ (by omega),hl,QDL,show PY.length-j=PY.length-(j+1)+1 by omega,QDW,QCN,QCU]
 rfl
theorem Qpt (xs:List Y32) (j:Nat) (h:j<xs.length) (v:Y32):Qao (xs.flatMap FY) (j*32) (FY v)=(xs.set j v).flatMap FY:=by
 have:=Qio Qb3 QbY (off:=0) (vs:=FY v) (y:=v) xs j h (by rw[Qb3];omega) (Qak _ _ (by rw[Qb3,Qb3])).symm
 simpa using this
theorem Qd8 {a b c:Nat} (h:a≠0∨b≠0∨c≠0):QbV [a,b,c]≠0:=fun e=>by
 rw[QfZ]at e
 have h1:=e a (by simp)
 have h2:=e b (by simp)
 have h3:=e c (by simp)
 omega
theorem Qy1 {r:List UInt8} (h:32≤r.length):Qao (z32H.map W8) 0 ((r.map W8).take 32)=(r.take 32).map W8:=by
 rw[←QD9,Qak _ _ (by rw[QCF,QCF,QC5,QbL];omega)]
def bk0:List Value:=BkC QiT 0 z32H
theorem QjK:bk0.length=321:=Qch 0 QcI QbL
def Qmk (hs:List Hp) (sc own:List UInt8) (mk:Y16):Prop:=sc.length=32∧own.length=32∧(hs.getD 0 hp0).nod.id≠0∧Qd9 (lcG 4 mk) hs=0∧QcR sc (pubH hs)=0
theorem Qzp:(Tryz.prog.info? 28).bind (·.zero)=some (.agg st0.toArray):=by kernel_rfl
theorem Qtu (mk:Y16) {own:List UInt8} (ho:own.length=32) (v:Value) (hv:v.cells= #[v]):Tryz.prog.built 28 [(0,.agg (mk.val.map W8).toArray),(1,.agg (own.map W8).toArray),(2,v)]=some (StC mk own v).toArray:=by
 have hm:(mk.val.map W8).length=16:=by rw[QCF,mk.2]
 have ho':(own.map W8).length=32:=by rw[QCF,ho]
 have hz:(Qa3.val.map W8).length=16:=by rw[QCF,Qa3.2]
 have hz2:((QCC 32 (0:UInt8)).map W8).length=32:=by simp
 have e1:Qao st0 0 (mk.val.map W8)=StC mk (QCC 32 0) (.slice none 0 0):=by rw[st0,StC,StC,Qgc (by rw[hm,hz])]
 have e2:Qao (StC mk (QCC 32 0) (.slice none 0 0)) 16 (own.map W8)=StC mk own (.slice none 0 0):=by
  rw[StC,StC,Qao,QDx hm,QET,QEc (by omega),QCH,hm,ho',QDj (by omega),QCU]
 have e3:Qao (StC mk own (.slice none 0 0)) 48 [v]=StC mk own v:=by rw[QhI _ _ _ (by rw[QcJ mk ho];omega),Qrv mk ho]
 have l1:=QcJ mk (own:=QCC 32 0) (by simp) (.slice none 0 0)
 have l2:=QcJ mk ho (.slice none 0 0)
 rw[QaY (pl:=[(0,16),(16,32),(48,1)]) Tryz.underlying28 Qzp (by kernel_rfl),QaV (vs:=mk.val.map W8) (off:=0) rfl (by rw[hm];rfl) (by rw[hm,zc49];omega),e1,
  QaV (vs:=own.map W8) (off:=16) rfl (by rw[ho'];rfl) (by rw[ho',l1];omega),e2,QaV (vs:=[v]) (off:=48) hv rfl (by rw[l2];simp),e3,Qb7]
theorem QpM:Tryz.prog.built 62 [(0,.int .u8 4)]=some (CC (lcG 4 Qa3)).toArray:=by kernel_rfl
set_option maxRecDepth 100000 in
set_option maxHeartbeats 16000000 in
theorem Qry (A H:Option Addr) (nx cx n ch:Nat) (rnd:List UInt8) (hs:List Hp) (w:World) (hr:RdB w A nx rnd) (hcx:nx≤cx) (hh:RdH w H n hs) (hn:n≤1048576):
 Calls Tryz.prog 9 #[.slice A nx cx,.slice H n ch] w fun e w'=>Later w w'∧((∃ E:Nat,E≠0∧e= .returned (.tuple #[.agg bk0.toArray,.agg st0.toArray,.int .i64 (E:Nat)]))∨
  ∃(sc own:List UInt8) (mk:Y16) (A':Option Addr) (c':Nat),Qmk hs sc own mk∧e= .returned (.tuple #[.agg (BkC (hdrG sc mk hs) (hs.getD 0 hp0).nod.id own).toArray,.agg (StC mk own (.slice A' n c')).toArray,.int .i64 0])∧RdF FY 32 QbY w' A' n (payG sc hs)):=by
 have hl:=hh.1
 have hrl:=hr.len
 have C5:Bag w (((((w.alloc (.cells Tryz.zeroCells42 42)).alloc (.cells st0.toArray 28)).alloc (.cells (z32H.map W8).toArray 25)).alloc (.cells (z32H.map W8).toArray 25)).alloc (.cells cz0.toArray 62)) [(w.heap.size+4,62,cz0),(w.heap.size+3,25,z32H.map W8),(w.heap.size+2,25,z32H.map W8),(w.heap.size+1,28,st0),(w.heap.size,42,Tryz.zeroCells42.toList)]:=bag5 w _ _ _ _ _ Tryz.zeroCells42.toList st0 (z32H.map W8) (z32H.map W8) cz0
 have hbk:=hid QpM
 have hk0:Hid (Tryz.prog.built 42 []=some bk0.toArray):=hid QqB
 have hs0:=hid Qls
 have hK0:Hid (bk0.length=321):=hid QjK
 have hS0:=hid zc49
 have oK:∀u∈bk0,u.oneCell'=true:=QfW _ _ _
 have oS:∀u∈st0,u.oneCell'=true:=Qe5 _ _ rfl
 have hzb:Tryz.zeroCells42.toList=bk0:=zcBk
 have hPa:=hid (fun mk w h=>Qp5 4 mk (by decide) (by decide) (Qyx mk) H n ch hs w h hn)
 have hPu:=hid (fun w h=>Qld H n ch hs w h (by omega))
 have hls:=hid (fun es g (w:World) h=>Qph (some ⟨g,0,none⟩) 3 3 es w h (by omega))
 by_cases h80:nx=80
 case neg=>
  have f80:((nx:Int)==80)=false:=by simp;omega
  by_cases hn0:n=0
  ·subst hn0
   go_enter Tryz.func9,Tryz.ntmps9
   go_wp2_with (first
    | (refine go_b rfl ?_;refine Qaj ?hw 62 _ rfl (CC (lcG 4 Qa3)) (by simp only[QCT,QC9,QC3];exact hbk.out) ?_;(case hw=>rfl))
    | (refine QaZ rfl ?_;refine Qb1 rfl rfl _ _ rfl (C5.nth 0 rfl) rfl rfl rfl ?_;intro w6 hb6 ho6
       have C6:=(C5.write 0 rfl ho6 hb6).cast (ls':=[(w.heap.size+4,62,CC (lcG 4 Qa3)),(w.heap.size+3,25,z32H.map W8),(w.heap.size+2,25,z32H.map W8),(w.heap.size+1,28,st0),(w.heap.size,42,bk0)]) (by rw[hzb];rfl))
    | (refine go_l rfl ?_;refine QcU rfl _ rfl (C6.nth 0 rfl) rfl ?_)
    | fail)
   clear C5 hzb hbk hb6 ho6
   generalize hst:st0=S0 at *
   generalize hbt:bk0=K0 at *
   (refine (hPa.out Qa3 _ (hh.later C6.lat)).mono ?_);rintro e w8 ⟨A8,c8,rfl,o8,j8⟩
   have D8:=C6.later j8
   generalize hPEe:Qd9 (lcG 4 Qa3) hs=PE at *
   go_wp2_with fail
   refine (hls.out [2,0,PE] _ _ ((Blk.new w8 32 [.int .i64 2,.int .i64 0,.int .i64 (PE:Nat)]).rd rfl)).mono ?_;rintro e w9 ⟨rfl,j9⟩
   have D9:=(D8.later (Qaa w8 (.cells #[.int .i64 2,.int .i64 0,.int .i64 (PE:Nat)] 32))).later j9
   have hE0:QbV [2,0,PE]≠0:=Qd8 (.inl (by omega))
   generalize QbV [2,0,PE]=E at *
   have hne:((E:Int) != 0)=true:=bne_iff_ne.2 (by omega)
   clear hPa hPu hls D8
   go_wp2_with (first
    | (refine go_b rfl ?_;refine Qaj ?hw 42 _ rfl K0 (by simp only[QCT,QC3];exact hk0.out) ?_;(case hw=>rfl))
    | (refine go_b rfl ?_;refine Qaj ?hw 28 _ rfl S0 (by simp only[QCT,QC3];exact hs0.out) ?_;(case hw=>rfl))
    | (refine QaZ rfl ?_;refine Qaf rfl rfl _ _ _ rfl w.heap.size 0 _ _ K0 (D9.nth 4 rfl) rfl rfl (by rw[hK0.out];exact Qbb) (by omega) oK ?_;intro wa hba hoa
       rw[Qak _ _ rfl]at hba
       have Da:=D9.write 4 rfl hoa hba)
    | (refine QaZ rfl ?_;refine Qaf rfl rfl _ _ _ rfl (w.heap.size+1) 0 _ _ S0 (Da.nth 3 rfl) rfl rfl (by rw[hS0.out];exact QbB) (by omega) oS ?_;intro wb hbb hob
       rw[Qak _ _ rfl]at hbb
       have Db:=Da.write 3 rfl hob hbb)
    | fail)
   exact bodyPost_ret (Qbg rfl _ _ _ _ _ _ _ _ _ _ (Db.nth 4 rfl) rfl Tryz.underlying42 rfl (by rw[hK0.out];exact Qbb) (Db.nth 3 rfl) rfl Tryz.underlying28 rfl (by rw[hS0.out];exact QbB)) rfl ⟨Db.lat,.inl ⟨_,hE0,by rw[hbt,hst];rfl⟩⟩
  ·have g1:decide ((0:Int)<(n:Int))=true:=decide_eq_true (by omega)
   have g2:decide (0<n)=true:=decide_eq_true (by omega)
   obtain⟨bH,oH,rfl,hbH,hcH⟩:=hh.at_ (k:=0) (by omega)
   have d1:∀w':World,Later w w'→w'.cell? ⟨bH,oH+1,none⟩=some (W64 (hs.getD 0 hp0).nod.id):=fun w' l=>by
    have:=hcH 1 _ (Qq1 _)
    rw[QEA,QD8]at this
    exact (l.below.cell (p:=⟨bH,oH+1,none⟩) hbH).trans this
   have lH:∀w':World,Later w w'→bH<w'.heap.size:=fun w' l=>QCX hbH l.size
   by_cases hi0:(hs.getD 0 hp0).nod.id=0
   ·have fi:((hs.getD 0 hp0).nod.id==0)=true:=by rw[hi0];rfl
    clear hi0
    generalize (hs.getD 0 hp0).nod.id=ID at *
    go_enter Tryz.func9,Tryz.ntmps9
    go_wp2_with (first
     | (refine go_b rfl ?_;refine Qaj ?hw 62 _ rfl (CC (lcG 4 Qa3)) (by simp only[QCT,QC9,QC3];exact hbk.out) ?_;(case hw=>rfl))
     | (refine QaZ rfl ?_;refine Qb1 rfl rfl _ _ rfl (C5.nth 0 rfl) rfl rfl rfl ?_;intro w6 hb6 ho6
        have C6:=(C5.write 0 rfl ho6 hb6).cast (ls':=[(w.heap.size+4,62,CC (lcG 4 Qa3)),(w.heap.size+3,25,z32H.map W8),(w.heap.size+2,25,z32H.map W8),(w.heap.size+1,28,st0),(w.heap.size,42,bk0)]) (by rw[hzb];rfl)
        have d1':=d1 _ C6.lat
        have lH':=lH _ C6.lat)
     | (refine go_l rfl ?_;refine QcU rfl _ rfl (C6.nth 0 rfl) rfl ?_)
     | fail)
    clear C5 hzb hbk hb6 ho6
    generalize hst:st0=S0 at *
    generalize hbt:bk0=K0 at *
    (refine (hPa.out Qa3 _ (hh.later C6.lat)).mono ?_);rintro e w8 ⟨A8,c8,rfl,o8,j8⟩
    have D8:=C6.later j8
    generalize hPEe:Qd9 (lcG 4 Qa3) hs=PE at *
    go_wp2_with fail
    refine (hls.out [2,3,PE] _ _ ((Blk.new w8 32 [.int .i64 2,.int .i64 3,.int .i64 (PE:Nat)]).rd rfl)).mono ?_;rintro e w9 ⟨rfl,j9⟩
    have D9:=(D8.later (Qaa w8 (.cells #[.int .i64 2,.int .i64 3,.int .i64 (PE:Nat)] 32))).later j9
    have hE0:QbV [2,3,PE]≠0:=Qd8 (.inl (by omega))
    generalize QbV [2,3,PE]=E at *
    have hne:((E:Int) != 0)=true:=bne_iff_ne.2 (by omega)
    clear hPa hPu hls D8
    go_wp2_with (first
     | (refine go_b rfl ?_;refine Qaj ?hw 42 _ rfl K0 (by simp only[QCT,QC3];exact hk0.out) ?_;(case hw=>rfl))
     | (refine go_b rfl ?_;refine Qaj ?hw 28 _ rfl S0 (by simp only[QCT,QC3];exact hs0.out) ?_;(case hw=>rfl))
     | (refine QaZ rfl ?_;refine Qaf rfl rfl _ _ _ rfl w.heap.size 0 _ _ K0 (D9.nth 4 rfl) rfl rfl (by rw[hK0.out];exact Qbb) (by omega) oK ?_;intro wa hba hoa
        rw[Qak _ _ rfl]at hba
        have Da:=D9.write 4 rfl hoa hba)
     | (refine QaZ rfl ?_;refine Qaf rfl rfl _ _ _ rfl (w.heap.size+1) 0 _ _ S0 (Da.nth 3 rfl) rfl rfl (by rw[hS0.out];exact QbB) (by omega) oS ?_;intro wb hbb hob
        rw[Qak _ _ rfl]at hbb
        have Db:=Da.write 3 rfl hob hbb)
     | fail)
    exact bodyPost_ret (Qbg rfl _ _ _ _ _ _ _ _ _ _ (Db.nth 4 rfl) rfl Tryz.underlying42 rfl (by rw[hK0.out];exact Qbb) (Db.nth 3 rfl) rfl Tryz.underlying28 rfl (by rw[hS0.out];exact QbB)) rfl ⟨Db.lat,.inl ⟨_,hE0,by rw[hbt,hst];rfl⟩⟩
   ·have fi:((hs.getD 0 hp0).nod.id==0)=false:=by simpa using hi0
    clear hi0
    generalize (hs.getD 0 hp0).nod.id=ID at *
    go_enter Tryz.func9,Tryz.ntmps9
    go_wp2_with (first
     | (refine go_b rfl ?_;refine Qaj ?hw 62 _ rfl (CC (lcG 4 Qa3)) (by simp only[QCT,QC9,QC3];exact hbk.out) ?_;(case hw=>rfl))
     | (refine QaZ rfl ?_;refine Qb1 rfl rfl _ _ rfl (C5.nth 0 rfl) rfl rfl rfl ?_;intro w6 hb6 ho6
        have C6:=(C5.write 0 rfl ho6 hb6).cast (ls':=[(w.heap.size+4,62,CC (lcG 4 Qa3)),(w.heap.size+3,25,z32H.map W8),(w.heap.size+2,25,z32H.map W8),(w.heap.size+1,28,st0),(w.heap.size,42,bk0)]) (by rw[hzb];rfl)
        have d1':=d1 _ C6.lat
        have lH':=lH _ C6.lat)
     | (refine go_l rfl ?_;refine QcU rfl _ rfl (C6.nth 0 rfl) rfl ?_)
     | fail)
    clear C5 hzb hbk hb6 ho6
    generalize hst:st0=S0 at *
    generalize hbt:bk0=K0 at *
    (refine (hPa.out Qa3 _ (hh.later C6.lat)).mono ?_);rintro e w8 ⟨A8,c8,rfl,o8,j8⟩
    have D8:=C6.later j8
    generalize hPEe:Qd9 (lcG 4 Qa3) hs=PE at *
    go_wp2_with fail
    refine (hls.out [2,0,PE] _ _ ((Blk.new w8 32 [.int .i64 2,.int .i64 0,.int .i64 (PE:Nat)]).rd rfl)).mono ?_;rintro e w9 ⟨rfl,j9⟩
    have D9:=(D8.later (Qaa w8 (.cells #[.int .i64 2,.int .i64 0,.int .i64 (PE:Nat)] 32))).later j9
    have hE0:QbV [2,0,PE]≠0:=Qd8 (.inl (by omega))
    generalize QbV [2,0,PE]=E at *
    have hne:((E:Int) != 0)=true:=bne_iff_ne.2 (by omega)
    clear hPa hPu hls D8
    go_wp2_with (first
     | (refine go_b rfl ?_;refine Qaj ?hw 42 _ rfl K0 (by simp only[QCT,QC3];exact hk0.out) ?_;(case hw=>rfl))
     | (refine go_b rfl ?_;refine Qaj ?hw 28 _ rfl S0 (by simp only[QCT,QC3];exact hs0.out) ?_;(case hw=>rfl))
     | (refine QaZ rfl ?_;refine Qaf rfl rfl _ _ _ rfl w.heap.size 0 _ _ K0 (D9.nth 4 rfl) rfl rfl (by rw[hK0.out];exact Qbb) (by omega) oK ?_;intro wa hba hoa
        rw[Qak _ _ rfl]at hba
        have Da:=D9.write 4 rfl hoa hba)
     | (refine QaZ rfl ?_;refine Qaf rfl rfl _ _ _ rfl (w.heap.size+1) 0 _ _ S0 (Da.nth 3 rfl) rfl rfl (by rw[hS0.out];exact QbB) (by omega) oS ?_;intro wb hbb hob
        rw[Qak _ _ rfl]at hbb
        have Db:=Da.write 3 rfl hob hbb)
     | fail)
    exact bodyPost_ret (Qbg rfl _ _ _ _ _ _ _ _ _ _ (Db.nth 4 rfl) rfl Tryz.underlying42 rfl (by rw[hK0.out];exact Qbb) (Db.nth 3 rfl) rfl Tryz.underlying28 rfl (by rw[hS0.out];exact QbB)) rfl ⟨Db.lat,.inl ⟨_,hE0,by rw[hbt,hst];rfl⟩⟩
 obtain rfl:nx=80:=h80
 obtain⟨b0,p0,rfl,hb00,_⟩:=hr.2 (by omega)
 have hc32:cutA (some ⟨b0,p0,none⟩) 32 cx=some ⟨b0,p0+32,none⟩:=by rw[cutA,if_neg (by omega)];rfl
 have hc64:cutA (some ⟨b0,p0,none⟩) 64 cx=some ⟨b0,p0+64,none⟩:=by rw[cutA,if_neg (by omega)];rfl
 have h32:Hid (∀ w,RdB w (some ⟨b0,p0,none⟩) 80 rnd→RdB w (some ⟨b0,p0+32,none⟩) 48 (rnd.drop 32)):=hid (fun w h=>by rw[←hc32];exact RdB.cut h (by omega) hcx)
 have h64:Hid (∀ w,RdB w (some ⟨b0,p0,none⟩) 80 rnd→RdB w (some ⟨b0,p0+64,none⟩) 16 (rnd.drop 64)):=hid (fun w h=>by rw[←hc64];exact RdB.cut h (by omega) hcx)
 clear hc32 hc64
 have e1:=hid (Qy1 (r:=rnd) (by omega))
 have e2:=hid (Qy1 (r:=rnd.drop 32) (by rw[QC6];omega))
 obtain⟨mk,hmk⟩:∃mk:Y16,mk.val=rnd.drop 64:=⟨⟨rnd.drop 64,by rw[QC6];omega⟩,rfl⟩
 have e3:=hid (Qmg (lcG 4 Qa3) mk)
 change Hid (Qao (CC (lcG 4 Qa3)) 4 (mk.val.map W8)=CC (lcG 4 mk))at e3
 rw[←hmk]at h64
 have hscl:(rnd.take 32).length=32:=by rw[QC5];omega
 have howl:((rnd.drop 32).take 32).length=32:=by rw[QC5,QC6];omega
 generalize rnd.take 32=sc at *
 generalize (rnd.drop 32).take 32=own at *
 have z32l:(z32H.map W8).length=32:=by rw[QCF,QbL]
 replace z32l:=hid z32l
 have hCl:=hid (Qar (lcG 4 Qa3))
 go_enter Tryz.func9,Tryz.ntmps9
 go_wp2_with (first
  | (refine go_b rfl ?_;refine Qaj ?hw 62 _ rfl (CC (lcG 4 Qa3)) (by simp only[QCT,QC9,QC3];exact hbk.out) ?_;(case hw=>rfl))
  | (refine QaZ rfl ?_;refine Qb1 rfl rfl _ _ rfl (C5.nth 0 rfl) rfl rfl rfl ?_;intro w6 hb6 ho6
     have C6:=(C5.write 0 rfl ho6 hb6).cast (ls':=[(w.heap.size+4,62,CC (lcG 4 Qa3)),(w.heap.size+3,25,z32H.map W8),(w.heap.size+2,25,z32H.map W8),(w.heap.size+1,28,st0),(w.heap.size,42,bk0)]) (by rw[hzb];rfl))
  | (refine Qas rfl _ _ _ _ rfl 5 Tryz.underlying22 Qbt (w.heap.size+2) 0 32 32 _ _ (C6.nth 2 rfl) (some ⟨b0,p0,none⟩) 80 cx (rnd.map W8) (hr.later C6.lat) (QaH _) rfl rfl (by rw[z32l.out];omega) ?_;intro w7 hb7 ho7
     rw[e1.out]at hb7
     have C7:=(C6.write 2 rfl ho7 hb7).drew)
  | fail)
 clear C5 hzb hbk hb6 ho6
 generalize hst:st0=S0 at *
 generalize hbt:bk0=K0 at *
 clear C6 hb7 ho7
 simp only[Act.put,QCL,QCO,QCN]
 refine Qag [] [0,1,2] [3] (by as_aux_lemma=>kernel_rfl) (by as_aux_lemma=>kernel_rfl) (by intro _ _ d _ _ h;cases d<;>exact h) ?_
 simp only[Qah,pick,QCD,QCE,QCG,QCI,QCH]
 repeat (go_big_quiet_step (fail))
 refine wpQuiet_nil ?_
 go_wp2_with (first
  | (refine Qas rfl _ _ _ _ rfl 5 Tryz.underlying22 Qbt (w.heap.size+3) 0 32 32 _ _ (C7.nth 1 rfl) (some ⟨b0,p0+32,none⟩) 48 (cx-32) ((rnd.drop 32).map W8) (h32.out _ (hr.later C7.lat)) (QaH _) rfl rfl (by rw[z32l.out];omega) ?_;intro w8 hb8 ho8
     rw[e2.out]at hb8
     have C8:=(C7.write 1 rfl ho8 hb8).drew)
  | fail)
 clear C7 hb8 ho8
 simp only[Act.put,QCL,QCO,QCN]
 refine Qag [] [0,1,2,3] [4] (by as_aux_lemma=>kernel_rfl) (by as_aux_lemma=>kernel_rfl) (by intro _ _ d _ _ h;cases d<;>exact h) ?_
 simp only[Qah,pick,QCD,QCE,QCG,QCI,QCH]
 repeat (go_big_quiet_step (fail))
 refine wpQuiet_nil ?_
 by_cases hn0:n=0
 ·subst hn0
  go_wp2_with (first
   | (refine Qas rfl _ _ _ _ rfl 5 Tryz.underlying22 Qbt (w.heap.size+4) 4 16 16 _ _ (C8.nth 0 rfl) (some ⟨b0,p0+64,none⟩) 16 (cx-64) (mk.val.map W8) (h64.out _ (hr.later C8.lat)) (QaH _) rfl rfl (by rw[hCl.out];omega) ?_;intro w9 hb9 ho9
      rw[QCQ (by rw[QCF,mk.2];omega),e3.out]at hb9
      have D:=(C8.write 0 rfl ho9 hb9).cast (ls':=[(w.heap.size+4,62,CC (lcG 4 mk)),(w.heap.size+3,25,own.map W8),(w.heap.size+2,25,sc.map W8),(w.heap.size+1,28,S0),(w.heap.size,42,K0)]) rfl)
   | (refine go_l rfl ?_;refine QcU rfl _ rfl (D.nth 0 rfl) rfl ?_)
   | fail)
  clear C8 hb9 ho9 e1 e2 e3 h32 h64 hr
  (refine (hPa.out mk _ (hh.later D.lat)).mono ?_);rintro e w8 ⟨A8,c8,rfl,o8,j8⟩
  have D8:=D.later j8
  generalize hPEe:Qd9 (lcG 4 mk) hs=PE at *
  have hPE0:PE≠0:=fun h=>by
   have:=(QcX (hPEe.trans h)).2.2.1
   omega
  go_wp2_with fail
  refine (hls.out [0,0,PE] _ _ ((Blk.new w8 32 [.int .i64 0,.int .i64 0,.int .i64 (PE:Nat)]).rd rfl)).mono ?_;rintro e w9 ⟨rfl,j9⟩
  have D9:=(D8.later (Qaa w8 (.cells #[.int .i64 0,.int .i64 0,.int .i64 (PE:Nat)] 32))).later j9
  have hE0:QbV [0,0,PE]≠0:=Qd8 (.inr (.inr hPE0))
  generalize QbV [0,0,PE]=E at *
  have hne:((E:Int) != 0)=true:=bne_iff_ne.2 (by omega)
  clear hPa hPu hls D8 hPE0
  go_wp2_with (first
   | (refine go_b rfl ?_;refine Qaj ?hw 42 _ rfl K0 (by simp only[QCT,QC3];exact hk0.out) ?_;(case hw=>rfl))
   | (refine go_b rfl ?_;refine Qaj ?hw 28 _ rfl S0 (by simp only[QCT,QC3];exact hs0.out) ?_;(case hw=>rfl))
   | (refine QaZ rfl ?_;refine Qaf rfl rfl _ _ _ rfl w.heap.size 0 _ _ K0 (D9.nth 4 rfl) rfl rfl (by rw[hK0.out];exact Qbb) (by omega) oK ?_;intro wa hba hoa
      rw[Qak _ _ rfl]at hba
      have Da:=D9.write 4 rfl hoa hba)
   | (refine QaZ rfl ?_;refine Qaf rfl rfl _ _ _ rfl (w.heap.size+1) 0 _ _ S0 (Da.nth 3 rfl) rfl rfl (by rw[hS0.out];exact QbB) (by omega) oS ?_;intro wb hbb hob
      rw[Qak _ _ rfl]at hbb
      have Db:=Da.write 3 rfl hob hbb)
   | fail)
  exact bodyPost_ret (Qbg rfl _ _ _ _ _ _ _ _ _ _ (Db.nth 4 rfl) rfl Tryz.underlying42 rfl (by rw[hK0.out];exact Qbb) (Db.nth 3 rfl) rfl Tryz.underlying28 rfl (by rw[hS0.out];exact QbB)) rfl ⟨Db.lat,.inl ⟨_,hE0,by rw[hbt,hst];rfl⟩⟩
 have g1:decide ((0:Int)<(n:Int))=true:=decide_eq_true (by omega)
 have g2:decide (0<n)=true:=decide_eq_true (by omega)
 obtain⟨bH,oH,rfl,hbH,hcH⟩:=hh.at_ (k:=0) (by omega)
 have d1:∀w':World,Later w w'→w'.cell? ⟨bH,oH+1,none⟩=some (W64 (hs.getD 0 hp0).nod.id):=fun w' l=>by
  have:=hcH 1 _ (Qq1 _)
  rw[QEA,QD8]at this
  exact (l.below.cell (p:=⟨bH,oH+1,none⟩) hbH).trans this
 have lH:∀w':World,Later w w'→bH<w'.heap.size:=fun w' l=>QCX hbH l.size
 by_cases hi0:(hs.getD 0 hp0).nod.id=0
 ·have fi:((hs.getD 0 hp0).nod.id==0)=true:=by rw[hi0];rfl
  clear hi0
  generalize (hs.getD 0 hp0).nod.id=ID at *
  go_wp2_with (first
   | (refine Qas rfl _ _ _ _ rfl 5 Tryz.underlying22 Qbt (w.heap.size+4) 4 16 16 _ _ (C8.nth 0 rfl) (some ⟨b0,p0+64,none⟩) 16 (cx-64) (mk.val.map W8) (h64.out _ (hr.later C8.lat)) (QaH _) rfl rfl (by rw[hCl.out];omega) ?_;intro w9 hb9 ho9
      rw[QCQ (by rw[QCF,mk.2];omega),e3.out]at hb9
      have D:=(C8.write 0 rfl ho9 hb9).cast (ls':=[(w.heap.size+4,62,CC (lcG 4 mk)),(w.heap.size+3,25,own.map W8),(w.heap.size+2,25,sc.map W8),(w.heap.size+1,28,S0),(w.heap.size,42,K0)]) rfl
      have d1':=d1 _ D.lat
      have lH':=lH _ D.lat)
   | (refine go_l rfl ?_;refine QcU rfl _ rfl (D.nth 0 rfl) rfl ?_)
   | fail)
  clear C8 hb9 ho9 e1 e2 e3 h32 h64 hr
  (refine (hPa.out mk _ (hh.later D.lat)).mono ?_);rintro e w8 ⟨A8,c8,rfl,o8,j8⟩
  have D8:=D.later j8
  generalize hPEe:Qd9 (lcG 4 mk) hs=PE at *
  go_wp2_with fail
  refine (hls.out [0,3,PE] _ _ ((Blk.new w8 32 [.int .i64 0,.int .i64 3,.int .i64 (PE:Nat)]).rd rfl)).mono ?_;rintro e w9 ⟨rfl,j9⟩
  have D9:=(D8.later (Qaa w8 (.cells #[.int .i64 0,.int .i64 3,.int .i64 (PE:Nat)] 32))).later j9
  have hE0:QbV [0,3,PE]≠0:=Qd8 (.inr (.inl (by omega)))
  generalize QbV [0,3,PE]=E at *
  have hne:((E:Int) != 0)=true:=bne_iff_ne.2 (by omega)
  clear hPa hPu hls D8
  go_wp2_with (first
   | (refine go_b rfl ?_;refine Qaj ?hw 42 _ rfl K0 (by simp only[QCT,QC3];exact hk0.out) ?_;(case hw=>rfl))
   | (refine go_b rfl ?_;refine Qaj ?hw 28 _ rfl S0 (by simp only[QCT,QC3];exact hs0.out) ?_;(case hw=>rfl))
   | (refine QaZ rfl ?_;refine Qaf rfl rfl _ _ _ rfl w.heap.size 0 _ _ K0 (D9.nth 4 rfl) rfl rfl (by rw[hK0.out];exact Qbb) (by omega) oK ?_;intro wa hba hoa
      rw[Qak _ _ rfl]at hba
      have Da:=D9.write 4 rfl hoa hba)
   | (refine QaZ rfl ?_;refine Qaf rfl rfl _ _ _ rfl (w.heap.size+1) 0 _ _ S0 (Da.nth 3 rfl) rfl rfl (by rw[hS0.out];exact QbB) (by omega) oS ?_;intro wb hbb hob
      rw[Qak _ _ rfl]at hbb
      have Db:=Da.write 3 rfl hob hbb)
   | fail)
  exact bodyPost_ret (Qbg rfl _ _ _ _ _ _ _ _ _ _ (Db.nth 4 rfl) rfl Tryz.underlying42 rfl (by rw[hK0.out];exact Qbb) (Db.nth 3 rfl) rfl Tryz.underlying28 rfl (by rw[hS0.out];exact QbB)) rfl ⟨Db.lat,.inl ⟨_,hE0,by rw[hbt,hst];rfl⟩⟩
 have fi:((hs.getD 0 hp0).nod.id==0)=false:=by simpa using hi0
 generalize hID:(hs.getD 0 hp0).nod.id=ID at *
 go_wp2_with (first
  | (refine Qas rfl _ _ _ _ rfl 5 Tryz.underlying22 Qbt (w.heap.size+4) 4 16 16 _ _ (C8.nth 0 rfl) (some ⟨b0,p0+64,none⟩) 16 (cx-64) (mk.val.map W8) (h64.out _ (hr.later C8.lat)) (QaH _) rfl rfl (by rw[hCl.out];omega) ?_;intro w9 hb9 ho9
     rw[QCQ (by rw[QCF,mk.2];omega),e3.out]at hb9
     have D:=(C8.write 0 rfl ho9 hb9).cast (ls':=[(w.heap.size+4,62,CC (lcG 4 mk)),(w.heap.size+3,25,own.map W8),(w.heap.size+2,25,sc.map W8),(w.heap.size+1,28,S0),(w.heap.size,42,K0)]) rfl
     have d1':=d1 _ D.lat
     have lH':=lH _ D.lat)
  | (refine go_l rfl ?_;refine QcU rfl _ rfl (D.nth 0 rfl) rfl ?_)
  | fail)
 clear C8 hb9 ho9 e1 e2 e3 h32 h64 hr
 (refine (hPa.out mk _ (hh.later D.lat)).mono ?_);rintro e w8 ⟨A8,c8,rfl,o8,j8⟩
 have D8:=D.later j8
 generalize hPEe:Qd9 (lcG 4 mk) hs=PE at *
 by_cases hPE0:PE≠0
 ·have hE0:QbV [0,0,PE]≠0:=Qd8 (.inr (.inr hPE0))
  generalize hLe:QbV [0,0,PE]=E at *
  have hne:((E:Int) != 0)=true:=bne_iff_ne.2 (by omega)
  go_wp2_with fail
  refine (hls.out [0,0,PE] _ _ ((Blk.new w8 32 [.int .i64 0,.int .i64 0,.int .i64 (PE:Nat)]).rd rfl)).mono ?_;rintro e w9 ⟨rfl,j9⟩
  rw[hLe]
  have D9:=(D8.later (Qaa w8 (.cells #[.int .i64 0,.int .i64 0,.int .i64 (PE:Nat)] 32))).later j9
  clear hPa hPu hls D8 hLe
  go_wp2_with (first
   | (refine go_b rfl ?_;refine Qaj ?hw 42 _ rfl K0 (by simp only[QCT,QC3];exact hk0.out) ?_;(case hw=>rfl))
   | (refine go_b rfl ?_;refine Qaj ?hw 28 _ rfl S0 (by simp only[QCT,QC3];exact hs0.out) ?_;(case hw=>rfl))
   | (refine QaZ rfl ?_;refine Qaf rfl rfl _ _ _ rfl w.heap.size 0 _ _ K0 (D9.nth 4 rfl) rfl rfl (by rw[hK0.out];exact Qbb) (by omega) oK ?_;intro wa hba hoa
      rw[Qak _ _ rfl]at hba
      have Da:=D9.write 4 rfl hoa hba)
   | (refine QaZ rfl ?_;refine Qaf rfl rfl _ _ _ rfl (w.heap.size+1) 0 _ _ S0 (Da.nth 3 rfl) rfl rfl (by rw[hS0.out];exact QbB) (by omega) oS ?_;intro wb hbb hob
      rw[Qak _ _ rfl]at hbb
      have Db:=Da.write 3 rfl hob hbb)
   | fail)
  exact bodyPost_ret (Qbg rfl _ _ _ _ _ _ _ _ _ _ (Db.nth 4 rfl) rfl Tryz.underlying42 rfl (by rw[hK0.out];exact Qbb) (Db.nth 3 rfl) rfl Tryz.underlying28 rfl (by rw[hS0.out];exact QbB)) rfl ⟨Db.lat,.inl ⟨_,hE0,by rw[hbt,hst];rfl⟩⟩
 obtain rfl:PE=0:=Classical.not_not.1 hPE0
 have hp15:=QcX hPEe
 rw[hl]at hp15
 obtain⟨_,_,hn1,hn5,_,_⟩:=hp15
 have hpok:=hid (fun i (hi:i<n)=>QmM hPEe (i:=i) (by rw[hl];exact hi))
 have hPG:QmN 4 mk hs=QeP 4 mk hs n:=by rw[QmN,if_pos hPEe,hl]
 have hcl:=QcG 4 mk hs n
 have hcg:=hid (Qqj 4 mk hs n)
 have hHG:Hid (hdrG sc mk hs=hdrA n (fun i=>encB (Qcu (lcG 4 mk) hs i)) (Qcv sc (pubH hs)) (n-1)):=hid (by rw[hdrG,hl])
 have hPYl:=hid (Qdv sc hs)
 rw[hl]at hPYl
 have hPYg:=hid (QnZ sc hs)
 rw[hl]at hPYg
 have hsg:=hid (Qnk sc (pubH hs) n)
 have hstl:=hid (Qbj sc (pubH hs))
 have hsal:=hid (QgX sc (pubH hs) n)
 have hdp:=hid (fun (w:World) g (gs:List Nat) hb hg hgs=>QpP (w:=w) (g:=g) (n:=n) (gs:=gs) (hs:=hs) hl hb hg hgs)
 have hSc:=hid (fun A1 A2 c2 w h1 h2=>QjW A1 A2 32 32 n c2 sc (pubH hs) w h1 (by omega) h2 (by omega))
 have hMk:Hid (QcR sc (pubH hs)=0→Qmk hs sc own mk):=hid (fun h=>⟨hscl,howl,by rw[hID];exact hi0,hPEe,h⟩)
 rw[hPG,hcl]at o8
 have hcok:=hid (fun i (hi:i<n)=>show cmdE ((QeP 4 mk hs n).getD i cmd0)=0∧(((QeP 4 mk hs n).getD i cmd0).kd=1↔i+1<n) from by
  rw[hcg.out i hi]
  have:=hpok.out i hi
  rwa [hl]at this)
 have hcg':=hid (fun i (hi:i<n)=>show encB ((QeP 4 mk hs n).getD i cmd0)=(fun i=>encB (Qcu (lcG 4 mk) hs i)) i from by rw[hcg.out i hi])
 have hsa:Hid (∀ k,((fun i=>encB (Qcu (lcG 4 mk) hs i)) k).length=32):=hid (fun k=>QcE _)
 have hHl:(hdrA n (fun i=>encB (Qcu (lcG 4 mk) hs i)) (Qcv sc (pubH hs)) (n-1)).length=288:=by
  rw[hdrA,QCM,QCM,Qc5 (hstl.out _),Qby hn1 hn5 hsa.out,tagA,Qbw]
 have hHb:=hid (fun (w:World) A4 c4 h1 h2 hc4=>Qp7 A8 A4 n c8 c4 (QeP 4 mk hs n) (Qdk sc (pubH hs) n) w h1 h2 hsal.out hn1 hn5 hc4 hcok.out (fun i=>encB (Qcu (lcG 4 mk) hs i)) (Qcv sc (pubH hs)) hsa.out hcg'.out hsg.out)
 clear hcok hcg' hsa hpok hcl hcg
 rw[hPG,QcG]
 clear hPG hPEe hi0 hPE0
 generalize QeP 4 mk hs n=CS at *
 rw[←hHG.out]at hHl hHb
 generalize hHd:hdrG sc mk hs=HD at *
 have HHd:=hid hHd
 clear hHd hHG
 go_wp2_with fail
 refine (hls.out [0,0,0] _ _ ((Blk.new w8 32 [.int .i64 0,.int .i64 0,.int .i64 0]).rd rfl)).mono ?_;rintro e w9 ⟨rfl,j9⟩
 have j89:=(Qaa w8 (.cells #[.int .i64 0,.int .i64 0,.int .i64 0] 32)).trans j9
 have D9:=D8.later j89
 have o9:=o8.later j89
 clear hls D8 o8 D j9 j89 hPa
 rw[show QbV [0,0,0]=0 from rfl]
 have D9d:=D9.drew
 go_wp2_with fail
 refine Qag [([0,1],2),([],3)] [4,5,6,7,8] [] (by as_aux_lemma=>kernel_rfl) (by as_aux_lemma=>kernel_rfl) (by intro _ _ d _ _ h;cases d<;>exact h) ?_
 simp only[Qah,pick,QCD,QCE,QCG,QCI,QCH]
 repeat (go_big_quiet_step (fail))
 refine wpQuiet_nil ?_
 go_wp2_with fail
 (refine (hPu.out _ (hh.later D9d.lat)).mono ?_);rintro e w10 ⟨gp,gs,rfl,_,hbg,hgl,hgs,_,j10⟩
 have hpu:=hdp.out _ _ _ hbg hgl hgs
 have D10:=D9d.later j10
 go_wp2_with fail
 try refine⟨by first|assumption|exact Qab _|exact Qaa _ _|exact Later.refl _,?_⟩
 try simp only[Qah,pick,QCD,QCE,QCG,QCI,QCH]
 repeat (go_big_quiet_step (fail))
 refine wpQuiet_nil ?_
 go_wp2_with fail
 (refine (hSc.out (some ⟨w.heap.size+2,0,none⟩) _ _ _ (Qcr (D10.nth 2 rfl) hscl) hpu).mono ?_);rintro e w11 ⟨j11,hor⟩
 have D11:=D10.later j11
 have o11:=o9.later ((Qab w9).trans (j10.trans j11))
 obtain⟨vS,hre,hok⟩:∃vS,e= .returned (.tuple #[vS,.int .i64 (QcR sc (pubH hs):Nat)])∧(QcR sc (pubH hs)=0→∃A' c',vS= .slice A' n c'∧n≤c'∧RdK 192 w11 A' n (Qdk sc (pubH hs) n)):=by
  rcases hor with ⟨h,rfl⟩|⟨h,A',c',rfl,h2,h3⟩
  ·exact⟨_,rfl,fun e=>absurd e h⟩
  ·exact⟨_,by rw[h];rfl,fun _=>⟨A',c',rfl,h2,h3⟩⟩
 subst hre
 replace hok:=hid hok
 clear hor hSc hPu hdp hbg hgl hgs hpu D9 D9d D10 o9 j8 j10
 generalize QcR sc (pubH hs)=SE at *
 generalize hst2:Qdk sc (pubH hs) n=XS at *
 go_wp2_with fail
 try refine⟨by first|assumption|exact Qab _|exact Qaa _ _|exact Later.refl _,?_⟩
 try simp only[Qah,pick,QCD,QCE,QCG,QCI,QCH]
 repeat (go_big_quiet_step (fail))
 refine wpQuiet_nil ?_
 by_cases hSE:SE≠0
 ·have hne:((SE:Int) != 0)=true:=bne_iff_ne.2 (by omega)
  clear hok hHb hMk o11 j11
  go_wp2_with (first
   | (refine go_b rfl ?_;refine Qaj ?hw 42 _ rfl K0 (by simp only[QCT,QC3];exact hk0.out) ?_;(case hw=>rfl))
   | (refine go_b rfl ?_;refine Qaj ?hw 28 _ rfl S0 (by simp only[QCT,QC3];exact hs0.out) ?_;(case hw=>rfl))
   | (refine QaZ rfl ?_;refine Qaf rfl rfl _ _ _ rfl w.heap.size 0 _ _ K0 (D11.nth 4 rfl) rfl rfl (by rw[hK0.out];exact Qbb) (by omega) oK ?_;intro wa hba hoa
      rw[Qak _ _ rfl]at hba
      have Da:=D11.write 4 rfl hoa hba)
   | (refine QaZ rfl ?_;refine Qaf rfl rfl _ _ _ rfl (w.heap.size+1) 0 _ _ S0 (Da.nth 3 rfl) rfl rfl (by rw[hS0.out];exact QbB) (by omega) oS ?_;intro wb hbb hob
      rw[Qak _ _ rfl]at hbb
      have Db:=Da.write 3 rfl hob hbb)
   | fail)
  exact bodyPost_ret (Qbg rfl _ _ _ _ _ _ _ _ _ _ (Db.nth 4 rfl) rfl Tryz.underlying42 rfl (by rw[hK0.out];exact Qbb) (Db.nth 3 rfl) rfl Tryz.underlying28 rfl (by rw[hS0.out];exact QbB)) rfl ⟨Db.lat,.inl ⟨_,hSE,by rw[hbt,hst];rfl⟩⟩
 obtain rfl:SE=0:=Classical.not_not.1 hSE
 obtain⟨A4,c4,rfl,hc4,hrk⟩:=hok.out rfl
 replace hMk:=hid (hMk.out rfl)
 clear hok hSE
 go_wp2_with fail
 (refine (hHb.out _ A4 c4 o11 hrk hc4).mono ?_);rintro e w12 ⟨rfl,j12⟩
 have D12:=D11.later j12
 have hrk12:=hrk.later j12
 clear hHb hrk D11 o11 j11 j12
 have HH:=hid zcH
 have hhl:(HD.map W8).length=288:=by rw[QCF,hHl]
 replace hhl:=hid hhl
 go_wp2_with (first
  | (refine QaZ rfl ?_;refine Qdw rfl rfl _ _ rfl ((Blk.new w12 _ Tryz.zeroCells39.toList).cast HH.out) rfl rfl hHl (by rw[QCF,QCS]) ?_;intro w13 hb13 ho13
     have D13:=(D12.push (Qaa _ _) (QCP _) ho13 hb13).drew
     have hrk13:=(hrk12.later ((Qaa w12 (.cells Tryz.zeroCells39 39)).only ho13 (QCP _))).later (Qab w13)
     have d13':=d1 _ D13.lat
     have lH13:=lH _ D13.lat)
  | fail)
 generalize w12.heap.size=gH at *
 clear hb13 ho13 D12 hrk12
 have hb3:=hid (QsF (h:=HD) (ky:=own) ID hHl howl)
 have hB3l:=hid (Qch (h:=HD) (ky:=own) ID hHl howl)
 have hB3o:∀u∈BkC HD ID own,u.oneCell'=true:=QfW _ _ _
 generalize hKB:BkC HD ID own=KB at *
 have hHKB:=hid hKB
 have hol:(own.map W8).length=32:=by rw[QCF,howl]
 replace hol:=hid hol
 clear hKB
 refine Qag [([0,1,2,3,4,5,6,7,8],9)] [] [10] (by as_aux_lemma=>kernel_rfl) (by as_aux_lemma=>kernel_rfl) (by intro _ _ d _ _ h;cases d<;>exact h) ?_
 simp only[Qah,pick,QCD,QCE,QCG,QCI,QCH]
 repeat (first|go_big_quiet_skip|(go_big_quiet_want;(first|refine Qav 39 _ rfl gH 0 (HD.map W8) (fun w' hw j v hv=>by obtain⟨y,rfl⟩:=hw;rw[QC4];exact ((D13.later ⟨y,rfl⟩).nth 0 rfl).cellD j hv) rfl _ Tryz.underlying39 rfl (by rw[hhl.out];exact Qb6) ?_|refine Qav 25 _ rfl (w.heap.size+3) 0 (own.map W8) (fun w' hw j v hv=>by obtain⟨y,rfl⟩:=hw;rw[QC4];exact ((D13.later ⟨y,rfl⟩).nth 2 rfl).cellD j hv) rfl _ Tryz.underlying25 rfl (by rw[hol.out];exact Qmf) ?_|refine Qfh _ _ rfl KB (by simp only[QCT,QC9,QC3];exact hb3.out) ?_);simp only[Act.put,QCL,QCO,QCN];go_big_quiet_on)|(go_big_quiet_step (fail)))
 refine wpQuiet_nil ?_
 go_wp2_with fail
 try refine⟨by first|assumption|exact Qab _|exact Qaa _ _|exact Later.refl _,?_⟩
 try simp only[Qah,pick,QCD,QCE,QCG,QCI,QCH]
 repeat (go_big_quiet_step (fail))
 refine wpQuiet_nil ?_
 have D14:=(D13.fresh (k:=w13.heap.size) (Qaa w13.drew (.cells Tryz.zeroCells42 42)) (QCP _) ((Blk.new w13.drew 42 Tryz.zeroCells42.toList).cast zcBk))
 rw[show BkC QiT 0 z32H=bk0 from rfl,hbt]at D14
 go_wp2_with (first
  | (refine QaZ rfl ?_;refine Qaf rfl rfl _ _ _ rfl w13.heap.size 0 _ _ KB (D14.nth 0 rfl) rfl rfl (by rw[hB3l.out];exact Qbb) (by rw[hB3l.out,hK0.out];omega) hB3o ?_;intro w15 hb15 ho15;rw[Qak _ _ (by rw[hB3l.out,hK0.out])]at hb15;have D15:=(D14.write 0 rfl ho15 hb15).drew;have hrk15:RdK 192 w15.drew A4 n XS:=hrk13.later (((Qaa w13.drew (.cells Tryz.zeroCells42 42)).only ho15 (QCP _)).trans (Qab w15)))
  | fail)
 have hgB:w13.heap.size≠w.heap.size+4:=fun e=>D15.ne 0 2 rfl rfl (by decide) e
 generalize w13.heap.size=gB at *
 clear hb15 ho15 D13 D14 hrk13 hb3 HH
 have hCm:∀j v,(mk.val.map W8)[j]?=some v→(CC (lcG 4 mk))[4+j]?=some v:=fun j v hv=>by
  rw[CC,QEB 4 j]
  simp only[QCD]
  exact hv
 have hm16:(mk.val.map W8).length=16:=by rw[QCF,mk.2]
 replace hm16:=hid hm16
 have hbs:=hid (fun v (h1:Value.cells v= #[v])=>Qtu mk (own:=own) howl v h1)
 refine Qay [0,1,2,3,4] [([],1,5),([6],2,7)] [] [8] [7] (fun _=>(fun g=>.pointer (some ⟨g,0,none⟩),.cells st0.toArray 28)) (by as_aux_lemma=>kernel_rfl) (by as_aux_lemma=>kernel_rfl) (by intro _ _ d _ _ h;cases d<;>exact h) (by intro _ _ d _ _ h;cases d<;>exact h) ?_
 simp only[pick,QCD,QCE,QCG,QCI,QCH]
 repeat (first|go_big_quiet_skip|(go_big_quiet_want;(first|refine Qav 24 _ rfl (w.heap.size+4) 4 (mk.val.map W8) (fun w' hw j v hv=>by obtain⟨y,rfl⟩:=hw;exact ((D15.later ⟨y,rfl⟩).nth 2 rfl).cellD _ (hCm j v hv)) rfl _ Tryz.underlying24 rfl (by rw[hm16.out];exact Qfg) ?_|refine Qav 25 _ rfl (w.heap.size+3) 0 (own.map W8) (fun w' hw j v hv=>by obtain⟨y,rfl⟩:=hw;rw[QC4];exact ((D15.later ⟨y,rfl⟩).nth 3 rfl).cellD j hv) rfl _ Tryz.underlying25 rfl (by rw[hol.out];exact Qmf) ?_);simp only[Act.put,QCL,QCO,QCN];go_big_quiet_on)|(go_big_quiet_step (fail)))
 refine wpQuiet_nil ?_
 refine⟨?mkk,?_⟩
 case mkk=>
  refine⟨fun o ho=>?_,trivial⟩
  simp only[QCD,QCE,Option.some.injEq]at ho
  subst ho
  refine⟨rfl,fun W=>?_⟩
  unfold execOp
  simp[go_sem]
  try rfl
 simp only[Qbi,pick,QCD,QCE,QCG,QCI,QCH]
 refine wpQuiet_nil ?_
 intro w16 j16
 have D16:=D15.later j16
 have n32:n*32≤140737488355328:=by omega
 go_wp2_with (first
  | (refine Qey Qb3 (by omega) QbY rfl _ _ _ rfl 25 32 Tryz.underlying26 QAd _ _ _ _ n rfl rfl rfl rfl (by omega) n32 ?_;intro w17 hb17 hl17
     have D17:=D16.fresh hl17 (QCP _) hb17)
  | fail)
 refine⟨hl17,?_⟩
 simp only[Act.put,QCL,QCO,QCN]
 generalize hgP:w16.heap.size=gP at *
 repeat (first|go_big_quiet_skip|(go_big_quiet_want;(refine Qfh _ _ rfl (StC mk own (.slice (some ⟨gP,0,none⟩) n n)) (by simp only[QCT,QC9,QC3];exact hbs.out (.slice (some ⟨gP,0,none⟩) n n) rfl) ?_);simp only[Act.put,QCL,QCO,QCN];go_big_quiet_on)|(go_big_quiet_step (fail)))
 refine wpQuiet_nil ?_
 intro w18 gS j18 hgS _ hbS
 refine wpQuiet_nil ?_
 intro w19 j19
 have hBS:Blk w19 gS 28 st0:=Blk.later hbS j19
 have D18:=D17.later (j18.trans j19)
 have hneP:gS≠gP:=hBS.ne_type (D18.nth 0 rfl) (by decide)
 have D19:=D18.add (k:=gS) (Later.refl w19) (fun p hp=>by
  rcases QCZ.1 hp with rfl|hp
  ·exact hneP
  ·exact Nat.ne_of_gt (QCX (D15.blk p hp).lt hgS)) (QDm D15.lat.size hgS) hBS
 have L19:Later w15.drew w19:=j16.trans (hl17.trans (j18.trans j19))
 have hgP15:w15.drew.heap.size≤gP:=by rw[←hgP];exact j16.size
 simp only[QCL]
 clear hBS D18 j16 hl17 hb17 hbS j18 j19 D17 D16 hgP hCm hm16 hgB D15 n32 hbs
 have hSl:=QcJ mk howl (.slice (some ⟨gP,0,none⟩) n n)
 have hS1:=Qe5 mk own (v:=.slice (some ⟨gP,0,none⟩) n n) rfl
 have hSp:=Qfj mk howl (.slice (some ⟨gP,0,none⟩) n n)
 generalize hSt:StC mk own (.slice (some ⟨gP,0,none⟩) n n)=ST at *
 replace hSl:=hid hSl
 have HSt:=hid hSt
 clear hSt
 go_wp2_with (first
  | (refine QaZ rfl ?_;refine Qaf rfl rfl _ _ _ rfl gS 0 _ _ ST (D19.nth 0 rfl) rfl rfl (by rw[hSl.out];exact QbB) (by rw[hSl.out,zc49];omega) hS1 ?_;intro w20 hb20 ho20
     rw[Qak _ _ (by rw[hSl.out,zc49])]at hb20
     have D20:=D19.write 0 rfl ho20 hb20
     have L20:=L19.only ho20 hgS)
  | fail)
 clear hb20 ho20 D19 L19 d13' lH13 hB3o hS1 oK oS hhl hol
 generalize hPYe:payG sc hs=PY at *
 have hPYE:=hid hPYe
 clear hPYe
 obtain⟨B0l,hB0l⟩:∃B0l,B0l=[(gB,42,KB),(gH,39,HD.map W8),(w.heap.size+4,62,CC (lcG 4 mk)),(w.heap.size+3,25,own.map W8),(w.heap.size+2,25,sc.map W8),(w.heap.size+1,28,S0),(w.heap.size,42,K0)]:=⟨_,rfl⟩
 replace D20:Bag w w20 ((gS,28,ST) :: (gP,25,(payJ PY 0).flatMap FY) :: B0l):=D20.cast (by rw[hB0l,Qsn,hPYl.out];rfl)
 have hpj:=hid (Qs7 PY)
 rw[hPYl.out]at hpj
 have hpl:=hid (QmP PY)
 rw[hPYl.out]at hpl
 have hpa:=hid (QtC PY)
 rw[hPYl.out]at hpa
 have hfl:=hid (Qbk (F:=FY) (sz:=32) Qb3)
 have hPw:=hid (fun i (hi:i<n)=>show subB (XS.getD i []) 64 32=(PY.getD i QbY).val by rw[hsg.out i hi,hPYg.out i hi];rfl)
 have hrk':=hid hrk15
 have hFYl:=hid Qb3
 clear hrk15 hsg hstl hsal hPYg
 go_loopw [106] (fun i wr=>∃j:Nat,j≤n∧i= .int .i64 j∧Bag w wr ((gS,28,ST) :: (gP,25,(payJ PY j).flatMap FY) :: B0l)∧Later w15.drew wr) (fun i _=>n-(intOf i).toNat)
 case atStart=>exact⟨0,by omega,rfl,D20,L20⟩
 case round=>
  clear D20 L20
  obtain⟨j,hj,rfl,B,L⟩:=hrel
  by_cases hjn:j<n
  ·obtain⟨b,o,rfl,hbs,hcs⟩:=hrk'.out.sub (k:=j) hjn
   have BD:=B.drew
   have cv:=hid (fun (w':World) (l:Later wr.drew w') i v hv=>hcs w' ((L.trans (Qab wr)).trans l) 64 32 _ (hPw.out j hjn) i v hv)
   have c48:=(BD.nth 0 rfl).cellD 48 hSp
   have lgS:=(BD.nth 0 rfl).lt
   have hst:=hid (hpj.out j hjn)
   have hlj:=hpl.out j hj
   have hFv:((PY.getD j QbY).val.map W8).length=32:=hFYl.out (PY.getD j QbY)
   replace hFv:=hid hFv
   have h1v:=QvH (PY.getD j QbY)
   have hput:=hid (Qpt (payJ PY j) j (by omega) (PY.getD j QbY))
   rw[hst.out]at hput
   have hfj:=hid (hfl.out (payJ PY j))
   rw[hlj]at hfj
   clear hcs hlj
   generalize (payJ PY j).flatMap FY=PF at *
   generalize hPYj:PY.getD j QbY=py at *
   clear hPYj
   change ∀u∈py.val.map W8,u.oneCell'=true at h1v
   change Hid (Qao PF (j*32) (py.val.map W8)=(payJ PY (j+1)).flatMap FY)at hput
   go_wp2_with fail
   refine Qag [] [0,1,2,3,4,5,6,7,8,9] [10] (by as_aux_lemma=>kernel_rfl) (by as_aux_lemma=>kernel_rfl) (by intro _ _ d _ _ h;cases d<;>exact h) ?_
   simp only[Qah,pick,QCD,QCE,QCG,QCI,QCH]
   repeat (first|go_big_quiet_skip|(go_big_quiet_want;(refine Qav 25 _ rfl b (o+j*192+64) (py.val.map W8) (fun w' hw i v hv=>by obtain⟨y,rfl⟩:=hw;exact cv.out _ ⟨y,rfl⟩ i v hv) rfl _ Tryz.underlying25 rfl (by rw[hFv.out];exact Qmf) ?_);simp only[Act.put,QCL,QCO,QCN];go_big_quiet_on)|(go_big_quiet_step (fail)))
   refine wpQuiet_nil ?_
   go_wp2_with (first
    | (refine QaZ rfl ?_;refine Qaf rfl rfl _ _ _ rfl gP (j*32) _ _ (py.val.map W8) (BD.nth 1 rfl) rfl rfl (by rw[hFv.out];exact Qmf) (by rw[hFv.out,hfj.out];omega) h1v ?_;intro w22 hb22 ho22
       rw[hput.out]at hb22
       have B2:=BD.write 1 rfl ho22 hb22
       have L2:=(L.trans (Qab wr)).only ho22 hgP15)
    | fail)
   exact⟨⟨j+1,by omega,by go_num,B2,L2⟩,by simp[intOf];omega⟩
  ·obtain rfl:j=n:=by omega
   rw[hpa.out]at B
   have BD:=B.drew
   rw[hB0l]at BD
   go_wp2_with fail
   have hne08:gS≠w.heap.size:=BD.ne 0 8 rfl rfl (by decide)
   refine Qc4 [0,1] [2,3,4] (fun i=>if i=1 then [2] else []) (fun i=>if i=2 then w.heap.size else w.heap.size+1) (by as_aux_lemma=>kernel_rfl) (by as_aux_lemma=>kernel_rfl) (by intro _ _ d _ _ h;cases d<;>exact h) ?_
   refine⟨_,rfl,rfl,?_⟩
   refine Qfr _ _ rfl 0 KB (BD.nth 2 rfl) (by simp) rfl (Qgz _) _ Tryz.underlying42 rfl (by rw[hB3l.out];exact Qbb) ?_
   simp only[Act.put,QCL,QCO,QCN]
   refine⟨_,rfl,rfl,?_⟩
   refine Qfr _ _ rfl 0 ST (BD.nth 0 rfl) (by intro b hb;simp at hb;subst hb;exact hne08) rfl (Qgz _) _ Tryz.underlying28 rfl (by rw[hSl.out];exact QbB) ?_
   simp only[Act.put,QCL,QCO,QCN]
   simp only[Qij,Qf2,pick,QCD,QCE,QCG,QCI,QCH]
   refine Qaf rfl rfl _ _ _ rfl w.heap.size 0 _ _ KB (BD.nth 8 rfl) rfl rfl (by rw[hB3l.out];exact Qbb) (by rw[hB3l.out,hK0.out];omega) (by rw[←hHKB.out];exact QfW _ _ _) ?_
   intro wa hba hoa
   rw[Qak _ _ (by rw[hB3l.out,hK0.out])]at hba
   have Da:=BD.write 8 rfl hoa hba
   refine⟨hoa,?_⟩
   refine Qaf rfl rfl _ _ _ rfl (w.heap.size+1) 0 _ _ ST (Da.nth 7 rfl) rfl rfl (by rw[hSl.out];exact QbB) (by rw[hSl.out,hS0.out];omega) (by rw[←HSt.out];exact Qe5 _ _ rfl) ?_
   intro wb hbb hob
   rw[Qak _ _ (by rw[hSl.out,hS0.out])]at hbb
   have Db:=Da.write 7 rfl hob hbb
   refine⟨hob,?_⟩
   go_wp2_with fail
   refine⟨World.grownBy.refl _ _,?_⟩
   go_wp2_with fail
   exact bodyPost_ret (Qbg rfl _ _ _ _ _ _ _ _ _ _ (Db.nth 8 rfl) rfl Tryz.underlying42 rfl (by rw[hB3l.out];exact Qbb) (Db.nth 7 rfl) rfl Tryz.underlying28 rfl (by rw[hSl.out];exact QbB)) rfl ⟨Db.lat,.inr ⟨sc,own,mk,some ⟨gP,0,none⟩,j,hMk.out,by rw[HHd.out,hID,hHKB.out,HSt.out];rfl,by rw[hPYE.out];exact Qmu Qb3 (Db.nth 1 rfl) hPYl.out⟩⟩
end Go.Proofs.YticcbmhcgmhohaaGreat
