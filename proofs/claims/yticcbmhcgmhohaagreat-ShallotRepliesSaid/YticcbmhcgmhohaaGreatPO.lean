/-
  Lemmas for the last text of this claim (part 15 of 20).
-/
import Derived.ArgAppend
import Derived.BigQuiet
import Derived.BigRegion
import Derived.ChangeOld
import Derived.Deep.RegionWith
import Derived.DeepKeys4
import Derived.JoinedCond
import Derived.LaidMore
import Derived.Laws.Append
import Derived.Laws.BytesArg
import Derived.Laws.CopyOwn
import Derived.Laws.Externs
import Derived.Laws.IdiomStrings
import Derived.Laws.Tables
import Derived.Lib.AppendStr
import Derived.Lib.AppendZerosOnto
import Derived.Lib.Mul64
import Derived.Lib.SlBytesConst
import Derived.LoopN
import Derived.Maps.OwnSet
import Derived.OpenShut
import Derived.OrdersHeld
import Derived.ProofKit
import Derived.Shelf.Spec.BitsCarry
import Derived.ShutString
import Derived.Test.YticcbmhcgmhohaaGreatProg
import Derived.Test.YticcbmhcgmhohaaGreatRows
import Derived.WalkKit
import Derived.WalkLawsBesides
import Derived.WalkSpells
import Derived.Test.YticcbmhcgmhohaaGreatPB
import Derived.Test.YticcbmhcgmhohaaGreatPC
import Derived.Test.YticcbmhcgmhohaaGreatPE
import Derived.Test.YticcbmhcgmhohaaGreatPM
import Derived.Test.YticcbmhcgmhohaaGreatPN
open List renaming replicate → QCC, getElem?_cons_succ → QCD, getElem?_cons_zero → QCE, length_map → QCF, nil_append → QCH, cons_append → QCI, getElem?_eq_getElem → QCJ, getD_eq_getElem?_getD → QCK, setIfInBounds_toArray → QCL, length_append → QCM, set_cons_zero → QCN, set_cons_succ → QCO, take_of_length_le → QCQ, getElem?_append_right → QCR, length_replicate → QCS, map_toArray → QCT, append_assoc → QCU, getElem?_eq_some_iff → QCV, getElem?_append_left → QCW, getElem?_map → QCY, mem_cons → QCZ, not_mem_nil → QC0, map_nil → QC3, length_take → QC5, length_drop → QC6, map_cons → QC9, take_append_drop → QDa, set_append_right → QDc, append_nil → QDf, map_replicate → QDi, take_append_of_le_length → QDo, length_cons → QDp, mem_map → QDs, range → QDu, getElem?_drop → QDE, drop_append_of_le_length → QDN, replicate_append_replicate → QDQ, flatten_cons → QDU, getElem?_eq_none → QDV, getElem_mem → QD0, mem_append → QD3, drop_zero → QD7, map_take → QD9, drop_eq_nil_of_le → QEc, getElem?_take → QEm, drop_succ_cons → QEr, getElem?_range → QEs, take_zero → QEw, mem_singleton → QEK, range_succ → QER, drop_append → QET, flatten_nil → QEV
open Nat renaming le_refl → QCP, lt_of_lt_of_le → QCX, zero_add → QC4, le_trans → QDm, lt_or_ge → QDJ, add_sub_cancel_left → QEk, mul_one → QEq
open Option renaming toList_some → QCG, map_some → QEd, getD_some → QEL
open UInt64 renaming ofNat → QC7
open UInt8 renaming ofNat → QDe, toNat_ofNat' → QDB
set_option linter.all false
namespace Go.Proofs.YticcbmhcgmhohaaGreat
open Go.RowKit
open Go.BigFrame
def Qcp (b:List UInt8):Nat:=beN (subB b 28 2) 0
def QgZ (b:List UInt8):Prt:=⟨b.getD 16 0,QC7 (beN (subB b 20 8) 0),((b.getD 17 0).toNat:Int),((b.getD 18 0).toNat:Int),subB b 30 (Qcp b)⟩
def parE (b:List UInt8):Nat:=
 if b.length≠480 then 2 else if b.take 16≠QCC 16 0 then 7 else if b.getD 16 0<1∨3<b.getD 16 0 then 1
 else if b.getD 19 0≠0∨450<Qcp b then 3 else if prtE (QgZ b)≠0∨b.drop (30+Qcp b)≠QCC (450-Qcp b) 0 then 3 else 0
def parP (b:List UInt8):Prt:=if parE b=0 then QgZ b else prt0
set_option maxRecDepth 100000 in
set_option maxHeartbeats 2000000 in
theorem Qpn (b:List UInt8) (hl:b.length=768) (w:World):
 Calls Tryz.prog 15 #[.agg (b.map W8).toArray] w fun e w'=>∃A' c',e= .returned (.slice A' 768 c')∧OwnB w' w.heap.size A' 768 c' b∧Later w w':=by
 have hb:Blk (w.alloc (.cells (b.map W8).toArray 53)) w.heap.size 53 (b.map W8):=Blk.new _ _ _
 have s0:(subB b 0 288).length=288:=Qaq (by omega)
 have s1:(subB b 288 480).length=480:=Qaq (by omega)
 have hfl:[subB b 0 288,subB b 288 480].flatten=b:=by
  rw[subB,subB,QDU,QDU,QEV,QDf,QD7,QCQ (l:=b.drop 288) (by rw[QC6];omega),QDa]
 have hJ:=hid (fun B d (w:World) hp=>Qcy B 2 d [subB b 0 288,subB b 288 480] w hp (by omega) (by rw[hfl];omega))
 rw[hfl,hl]at hJ
 have hB:=hid (fun (w:World)=>Qjd (subB b 0 288) s0 w)
 have L:=Qaa w (.cells (b.map W8).toArray 53)
 have Rs:Hid (subB b 0 288=subB b 0 288):=hid rfl
 generalize hS:subB b 0 288=S0 at *
 replace hS:=hid hS
 go_enter Tryz.func15,Tryz.ntmps15
 go_wp2_with fail
 generalize hW:w.alloc _=w1 at *
 clear hW
 refine Qag [([0,1,3,4],2),([],5),([],6)] [7] [] (by as_aux_lemma=>kernel_rfl) (by as_aux_lemma=>kernel_rfl) (by intro _ _ d _ _ h;cases d<;>exact h) ?_
 simp only[Qah,pick,QCD,QCE,QCG,QCI,QCH]
 repeat (first|go_big_quiet_skip|(go_big_quiet_want;(refine QfK 0 288 _ rfl hb.drew rfl Tryz.underlying39 rfl Qb6 hS.out s0 ?_);simp only[Act.put,QCL,QCO,QCN];go_big_quiet_on)|(go_big_quiet_step (fail)))
 refine wpQuiet_nil ?_
 go_wp2_with fail
 (with_reducible refine (hB.out _).mono ?_);rintro e w2 ⟨A2,c2,rfl,o2,l2⟩
 go_wp2_with fail
 try refine⟨by first|assumption|exact Qab _|exact Qaa _ _|exact Later.refl _,?_⟩
 try simp only[Qah,pick,QCD,QCE,QCG,QCI,QCH]
 repeat (go_big_quiet_step (fail))
 refine wpQuiet_nil ?_
 have l3:=Qaa w2 (.cells #[.slice A2 288 c2,.slice (some ⟨w.heap.size,288,none⟩) 480 480] 22)
 have hb3:=((hb.later (Qab _)).later l2).later l3
 have P3:=Qef (bad:=fun _=>False) (ps:=[S0,subB b 288 480]) ((Blk.new w2 22 [.slice A2 288 c2,.slice (some ⟨w.heap.size,288,none⟩) 480 480]).rd rfl) (Qbx _ _) ⟨QaM (o2.later l3).rd o2.cap,QaM (QbR hb3 rfl s1) (QCP _),trivial⟩
 go_wp2_with fail
 try refine⟨by first|assumption|exact Qab _|exact Qaa _ _|exact Later.refl _,?_⟩
 try simp only[Qah,pick,QCD,QCE,QCG,QCI,QCH]
 repeat (go_big_quiet_step (fail))
 refine wpQuiet_nil ?_
 go_wp2_with fail
 (refine (hJ.out _ _ _ P3).mono ?_);rintro e w4 ⟨A4,c4,rfl,o4,l4⟩
 go_wp2_with fail
 try refine⟨by first|assumption|exact Qab _|exact Qaa _ _|exact Later.refl _,?_⟩
 try simp only[Qah,pick,QCD,QCE,QCG,QCI,QCH]
 repeat (go_big_quiet_step (fail))
 refine wpQuiet_nil ?_
 go_wp2_with fail
 go_ret
 exact⟨_,_,rfl,o4.mono (((L.trans (Qab _)).trans l2).trans l3).size,(((L.trans (Qab _)).trans l2).trans l3).trans l4⟩
theorem QwI:(Tryz.prog.info? 64).map (·.size)=some 20:=by kernel_rfl
theorem QCa:(Tryz.prog.info? 64).bind (·.zero)=some (.agg (CC cmd0).toArray):=by kernel_rfl
theorem Qp2 (c:Cmd):Tryz.prog.built 64 [(0,.agg (CC c).toArray)]=some (CC c).toArray:=by
 rw[QaY (pl:=[(0,20)]) Tryz.underlying64 QCa (by kernel_rfl),QaV (vs:=CC c) (off:=0) rfl (by rw[Qar];rfl) (by rw[Qar,Qar];omega),Qb7,Qak _ _ (by rw[Qar,Qar])]
def PC (c:Cmd) (P:List UInt8) (v:Value):List Value:=CC c++(P.map W8++[v])
def nil8:Value:=.slice none 0 0
def z768:List UInt8:=QCC 768 0
theorem QaJ:z768.length=768:=QCS
theorem QbG (c:Cmd) {P:List UInt8} (h:P.length=768) (v:Value):(PC c P v).length=789:=by
 rw[PC,QCM,QCM,Qar,QCF,h]
 rfl
theorem QzQ (c:Cmd) (P:List UInt8) {v:Value} (h:v.oneCell'=true):∀u∈PC c P v,u.oneCell'=true:=by
 intro u hu
 rw[PC]at hu
 rcases QD3.1 hu with hu|hu
 ·exact QoS c u hu
 ·rcases QD3.1 hu with hu|hu
  ·exact QaH P u hu
  ·rw[QEK.1 hu];exact h
theorem QfM:(Tryz.prog.info? 66).map (·.size)=some 789:=by kernel_rfl
theorem Qwl:(Tryz.prog.info? 66).bind (·.zero)=some (.agg (PC cmd0 z768 nil8).toArray):=by
 rw[PC,z768,QDi]
 kernel_rfl
theorem zcPe:Tryz.zeroCells66.toList=PC cmd0 z768 nil8:=by
 rw[PC,z768,QDi]
 kernel_rfl
theorem QlB:Tryz.prog.built 66 []=some (PC cmd0 z768 nil8).toArray:=by
 rw[QaY (pl:=[(0,20),(20,768),(788,1)]) Tryz.underlying66 Qwl (by kernel_rfl),Qb7]
theorem Qgc {A B vs:List Value} (h:vs.length=A.length):Qao (A++B) 0 vs=vs++B:=by
 rw[Qao,QEw,QCH,QC4,h,List.drop_left]
theorem QsE (c:Cmd):Tryz.prog.built 66 [(0,.agg (CC c).toArray)]=some (PC c z768 nil8).toArray:=by
 rw[QaY (pl:=[(0,20),(20,768),(788,1)]) Tryz.underlying66 Qwl (by kernel_rfl),QaV (vs:=CC c) (off:=0) rfl (by rw[Qar];rfl) (by rw[Qar,QbG _ QaJ];omega),Qb7,PC,PC,Qgc (by rw[Qar,Qar])]
theorem Qil (c:Cmd) (P:List UInt8) (v:Value):∀j u,(CC c)[j]?=some u→(PC c P v)[0+j]?=some u:=fun j u h=>by
 rw[QC4,PC,QCW (QCV.1 h).1]
 exact h
theorem QyQ (c:Cmd) (P:List UInt8) (v:Value):∀j u,(P.map W8)[j]?=some u→(PC c P v)[20+j]?=some u:=fun j u h=>by
 rw[PC,QCR (by rw[Qar];omega),Qar,QEk,QCW (QCV.1 h).1]
 exact h
theorem Qr1 (c:Cmd) {P:List UInt8} (h:P.length=768) (v:Value):(PC c P v)[788]?=some v:=by
 rw[PC,QCR (by rw[Qar];omega),Qar,QCR (by rw[QCF,h];omega),QCF,h]
 rfl
theorem Qw7 (c:Cmd) {P:List UInt8} (h:P.length=768) (v v':Value):(PC c P v).set 788 v'=PC c P v':=by
 rw[PC,QDc _ _ (by rw[Qar];omega),Qar,QDc _ _ (by rw[QCF,h];omega),QCF,h]
 rfl
theorem QsL (c:Cmd) {P vs:List UInt8} (v:Value) (k:Nat) (h:k+vs.length≤P.length):Qao (PC c P v) (20+k) (vs.map W8)=PC c (putB P k vs) v:=by
 have hc:=Qar c
 rw[PC,PC,←QcB,Qao,Qao,List.take_append,hc,QCQ (by omega),QEk,QDo (by rw[QCF];omega),QET,hc,QEc (by omega),QCH,QCF,show 20+k+vs.length-20=k+vs.length by omega,QDN (by rw[QCF];omega)]
 simp only[QCU]
section
variable {ops:Array Oper} {rest:List Oper} {o:Oper} {a:Act} {w:World} {Q:Exit→Act→World→Prop}
theorem Qeo (hgd:o.guard=none) (hd:o.dst=none) (x y:Operand) (ho:o.op= .store 66 x y) {g:Nat} {t:TypeId} {l:List Value} {c:Cmd} {P:List UInt8} {v:Value} (hg:Blk w g t l) (hx:a.eval x= .pointer (some ⟨g,0,none⟩)) (hy:a.eval y= .agg (PC c P v).toArray) (hP:P.length=768) (hv:v.oneCell'=true) (hl:l.length=789)
 (h:∀w',Blk w' g t (PC c P v)→Only g w w'→wpList Tryz.prog ops Q rest a w'):wpList Tryz.prog ops Q (o :: rest) a w:=
 QaC hgd hd _ x y ho g t l _ hg hx hy 789 QfM (QbG c hP v) hl (QzQ c P hv) h
theorem Qs5 (hw:Region.wanted o (yielded ops a.tmps)=true) (x:Operand) (ho:o.op= .load 66 x) {g:Nat} {t:TypeId} {c:Cmd} {P:List UInt8} {v:Value} (hb:Blk w g t (PC c P v)) (hP:P.length=768) (hx:a.eval x= .pointer (some ⟨g,0,none⟩))
 (h:wpList Tryz.prog ops Q rest (a.put o.dst (.agg (PC c P v).toArray)) w):wpList Tryz.prog ops Q (o :: rest) a w:=
 Qan hw _ x ho g 0 _ (fun j v hv=>by rw[QC4];exact hb.cellD j hv) hx _ Tryz.underlying66 rfl (by rw[QbG c hP];exact QfM) h
theorem QrW (hw:Region.wanted o (yielded ops a.tmps)=true) (x:Operand) (ho:o.op= .load 64 x) {g:Nat} {t:TypeId} {c:Cmd} {P:List UInt8} {v:Value} (hb:Blk w g t (PC c P v)) (hx:a.eval x= .pointer (some ⟨g,0,none⟩))
 (h:wpList Tryz.prog ops Q rest (a.put o.dst (.agg (CC c).toArray)) w):wpList Tryz.prog ops Q (o :: rest) a w:=
 Qan hw _ x ho g 0 _ (fun j v hv=>hb.cellD _ (Qil _ _ _ j v hv)) hx _ Tryz.underlying64 rfl (by rw[Qar];exact QwI) h
end
set_option maxRecDepth 100000 in
theorem QhA (c:Cmd) (w:World):Calls Tryz.prog 17 #[.agg (CC c).toArray] w fun e w'=>e= .returned (.bool (!(c.kd==1)))∧Later w w':=by
 have hb:Blk (w.alloc (.cells (CC c).toArray 64)) w.heap.size 64 (CC c):=Blk.new _ _ _
 have c0:=(QeI hb).1
 have n1:(c.kd != 1)= !(c.kd==1):=rfl
 go_enter Tryz.func17,Tryz.ntmps17
 go_wp2
 go_ret
 exact⟨rfl,Qaa _ _⟩
theorem Qmp (s p:List UInt8) (hp:p.length=768) (hs:s.length=192):(relP s p).length=768:=by
 have h1:(p.take 288).length=288:=by rw[QC5];omega
 have hf:fitW (kPay s) (p.drop 288):=⟨Qaq (by omega),by rw[QC6];omega,by rw[QC6];omega⟩
 unfold relP
 split
 ·rw[QCM,Qhj _ _ h1,Qdh,Qej okO hf,QbX _ _ _ hf.2.1,QC6,hp]
 ·exact QCS
theorem QiY (s p:List UInt8) (hp:p.length=768) (hs:s.length=192):(Qdh s p).length=480:=by
 have hf:fitW (kPay s) (p.drop 288):=⟨Qaq (by omega),by rw[QC6];omega,by rw[QC6];omega⟩
 rw[Qdh,Qej okO hf,QbX _ _ _ hf.2.1,QC6,hp]
theorem Qt0 (p:List UInt8) (k n:Nat) (h:p.length=k+n):subB p k n=p.drop k:=by rw[subB,QCQ (by rw[QC6];omega)]
theorem Qxl (hd bd:List UInt8) (h1:hd.length=288) (h2:bd.length=480):putB (putB z768 0 hd) 288 (bd.take 480)=hd++bd:=by
 rw[QCQ (by omega),z768,show QCC 768 (0:UInt8)=QCC 288 0++QCC 480 0 by rw[QDQ],Qeb _ _ _ (by rw[QCS,h1]),Qe4 _ _ _ 288 h1 (by rw[QCS,h2])]
theorem QtF {w:World} {base g n c:Nat} {bs:List UInt8} {rest:List Value} (h:Blk w g 5 (bs.map W8++rest)) (hb:base≤g) (hn:bs.length=n) (hc:c=(bs.map W8++rest).length) (hm:(bs.map W8++rest).length≤maxLen):OwnB w base (some ⟨g,0,none⟩) n c bs:=by
 subst hc
 have:=Qwj h hb hm
 rw[QCF,hn]at this
 exact this
theorem QxU {w:World} {base n c:Nat} {A:Option Addr} {bs:List UInt8} {l:List Value} (h:OwnB w base A n c bs) (hc:c=l.length):l.length≤maxLen:=by
 subst hc
 rcases h.2 with ⟨hv,_⟩|⟨g,cap,cur,hv,_,_,_,hm,_⟩
 ·injection hv with _ _ h3
  omega
 ·injection hv with _ _ h3
  omega
set_option maxRecDepth 100000 in
set_option maxHeartbeats 8000000 in
theorem Qq5 (s p:List UInt8) (hp:p.length=768) (hs:s.length=192) (w:World):
 Calls Tryz.prog 53 #[.agg (s.map W8).toArray,.agg (p.map W8).toArray] w fun e w'=>∃A' c',e= .returned (.tuple #[.agg (PC (relC s p) (relP s p) (.slice A' (relB s p).length c')).toArray,.int .i64 (relE s p:Nat)])∧OwnB w' w.heap.size A' (relB s p).length c' (relB s p)∧Later w w':=by
 have HZ:=hid zcPe
 have HH:=hid zcH
 have C1:=QaW w 170 (s.map W8)
 have C2:=C1.add (Qaa _ (.cells (p.map W8).toArray 53)) (k:=w.heap.size+1) (by simp) (by omega) (Blk.new' _ _ _ (by simp))
 have C3:=C2.add (Qaa _ (.cells Tryz.zeroCells66 66)) (k:=w.heap.size+2) (by simp) (by omega) ((Blk.new' _ _ Tryz.zeroCells66.toList (by simp)).cast HZ.out)
 clear C1 C2
 have hdl:(p.take 288).length=288:=by rw[QC5];omega
 have k2:(kPay s).length=32:=Qaq (by omega)
 have bl:(p.drop 288).length=480:=by rw[QC6];omega
 have hO:=hid (Qtb (p.take 288) s hdl hs)
 have hf:fitW (kPay s) (p.drop 288):=⟨k2,by omega,by omega⟩
 have hWi:=hid (fun A B c d (w:World) h1 hc h2 hd=>QkW A B 32 c 480 d (kPay s) (p.drop 288) w h1 hc h2 hd (by omega) (by omega))
 rw[Qeg okO hf]at hWi
 have hBl:=QiY s p hp hs
 have hst:=hid (Qt0 p 288 480 hp)
 have hE:Hid (relE s p=Qhp (p.take 288) s):=hid rfl
 have hC:Hid (relC s p=Qkr (p.take 288) s):=hid rfl
 have hP:Hid (relP s p=if relE s p=0∧(relC s p).kd=1 then QiS (p.take 288) s++Qdh s p else z768):=hid rfl
 have hB:Hid (relB s p=if relE s p=0∧(relC s p).kd≠1 then Qdh s p else []):=hid rfl
 have hON:=Qhj (p.take 288) s hdl
 have hput:=hid (Qxl (QiS (p.take 288) s) (Qdh s p) hON hBl)
 rw[show Qb9 (kPay s) (p.drop 288) rsO=Qdh s p from rfl,hBl]at hWi
 have hcz:Hid (Qhp (p.take 288) s≠0→Qkr (p.take 288) s=cmd0):=hid (fun h=>by rw[Qkr,if_neg h])
 rw[←hE.out]at hcz hO
 have hsh:Hid (subB p 0 288=p.take 288):=hid rfl
 generalize relP s p=RP at *
 generalize relB s p=RB at *
 generalize Qdh s p=BD at *
 generalize QiS (p.take 288) s=ON at *
 generalize relE s p=RE at *
 generalize hRC:relC s p=RC at *
 have HC:=hC.out
 rw[←HC]at hO hcz
 clear HC hC hE hRC
 generalize p.take 288=PH at *
 generalize p.drop 288=PD at *
 have hb0:=QlB
 have hb1:=Qp2 RC
 have hb2:=QsE RC
 have hzl:(PC cmd0 z768 nil8).length=789:=QbG _ QaJ _
 have lh:((QCC 288 (0:UInt8)).map W8).length=288:=by rw[QCF,QCS]
 generalize QCC 288 (0:UInt8)=ZH at *
 go_enter Tryz.func53,Tryz.ntmps53
 go_wp2_with (first
  | (refine QoL 0 288 rfl _ rfl (C3.nth 1 rfl) rfl Tryz.underlying39 rfl Qb6 hsh.out hdl ?_)
  | (refine Qe8 rfl _ rfl (C3.nth 2 rfl) hs rfl ?_)
  | fail)
 (with_reducible refine (hO.out _).mono ?_);rintro e w5 ⟨rfl,l5⟩
 replace C3:=C3.later l5
 clear l5 hO
 have Ca:=C3.fresh (Qaa _ (.cells cz0.toArray 62)) (QCP _) (Blk.new w5 62 cz0)
 have Cb:=Ca.add (Qaa _ (.cells Tryz.zeroCells39 39)) (k:=w5.heap.size+1) (fun q hq e=>by
  have:=(Ca.blk q hq).lt
  simp at this
  omega) (by have:=C3.lat.size;omega) ((Blk.new' _ 39 Tryz.zeroCells39.toList (by simp)).cast HH.out)
 clear Ca C3
 by_cases hr:RE=0
 ·subst hr
  replace hP:Hid (RP=if RC.kd=1 then ON++BD else z768):=hid (by rw[hP.out];simp)
  replace hB:Hid (RB=if RC.kd≠1 then BD else []):=hid (by rw[hB.out];simp)
  clear hcz
  go_wp2_with (first
   | (refine Qb1 rfl rfl _ _ rfl (Cb.nth 1 rfl) rfl rfl rfl ?_;intro w6 hb6 ho6
      have Cc:=Cb.write 1 rfl ho6 hb6)
   | (refine Qdw rfl rfl _ _ rfl (Cc.nth 0 rfl) rfl rfl hON lh ?_;intro w7 hb7 ho7
      have Cd:=Cc.write 0 rfl ho7 hb7)
   | fail)
  have Ce:=Cd.drew
  clear Cb Cc Cd hb6 ho6 hb7 ho7
  refine Qag [([0,1,2,3,4],5)] [6,7,8,9,10] [] (by as_aux_lemma=>kernel_rfl) (by as_aux_lemma=>kernel_rfl) (by intro _ _ d _ _ h;cases d<;>exact h) ?_
  simp only[Qah,pick,QCD,QCE,QCG,QCI,QCH]
  repeat (go_big_quiet_step (fail))
  refine wpQuiet_nil ?_
  go_wp2_with fail
  (refine (hWi.out _ _ _ _ _ (QbR (Ce.nth 4 rfl) rfl k2) (by omega) (QbR (Ce.nth 3 rfl) hst.out bl) (QCP _)).mono ?_);rintro e w8 ⟨l8,A8,c8,rfl,o8⟩
  go_wp2_with fail
  try refine⟨by first|assumption|exact Qab _|exact Qaa _ _|exact Later.refl _,?_⟩
  try simp only[Qah,pick,QCD,QCE,QCG,QCI,QCH]
  repeat (go_big_quiet_step (fail))
  refine wpQuiet_nil ?_
  obtain⟨g8,r8,rfl,hg8,hb8,hc8,hcc8⟩:=Qkm o8 (by omega)
  have hm8:(BD.map W8++r8).length≤maxLen:=QxU o8 hc8
  have Cf:=Ce.fresh l8 hg8 hb8
  replace hc8:=hid hc8
  clear o8 Ce hWi hb8 hg8
  go_wp2_with (first
   | (refine QcU rfl _ rfl (Cf.nth 2 rfl) rfl ?_)
   | (refine Qaj rfl 64 _ rfl (CC RC) (by simp only[QCT,QC9,QC3];exact hb1) ?_)
   | (refine Qaj rfl 66 _ rfl (PC RC z768 nil8) (by simp only[QCT,QC9,QC3];exact hb2) ?_)
   | (refine Qeo rfl rfl _ _ rfl ((Blk.new w8 _ Tryz.zeroCells66.toList).cast HZ.out) rfl rfl QaJ rfl hzl ?_;intro w9 hb9 ho9
      have Cg:=Cf.push (Qaa _ _) (QCP _) ho9 hb9)
   | (refine QrW rfl _ rfl (Cg.nth 0 rfl) rfl ?_)
   | fail)
  (with_reducible refine (QhA RC _).mono ?_);rintro e w10 ⟨rfl,l10⟩
  have Ch:=Cg.later l10
  clear hb9 ho9 Cg Cf
  cases hk:(RC.kd==1)
  ·have hkn:RC.kd≠1:=by simpa using hk
   have HP:RP=z768:=by rw[hP.out,if_neg hkn]
   have HB:RB=BD:=by rw[hB.out,if_pos hkn]
   replace HP:=hid HP
   replace HB:=hid HB
   go_wp2_with (first
    | (refine Qad rfl rfl _ _ _ rfl w8.heap.size 788 _ _ (Ch.nth 0 rfl) rfl (by rw[QbG _ QaJ];omega) rfl (by kernel_rfl) ?_;intro v11 w11 hv11 hb11 ho11;simp[go_sem]at hv11;subst hv11;rw[Qw7 _ QaJ]at hb11
       have Ci:=Ch.write 0 rfl ho11 hb11)
    | (refine Qs5 rfl _ rfl (Ci.nth 0 rfl) QaJ rfl ?_)
    | (refine Qeo rfl rfl _ _ rfl (Ci.nth 4 rfl) rfl rfl QaJ rfl hzl ?_;intro w12 hb12 ho12
       have Cj:=Ci.write 4 rfl ho12 hb12)
    | fail)
   refine bodyPost_ret (Qai rfl _ _ _ _ _ _ hb12 rfl Tryz.underlying66 rfl (by rw[QbG _ QaJ];exact QfM)) rfl ⟨some ⟨g8,0,none⟩,c8,by rw[HP.out,HB.out,hBl];rfl,?_,Cj.lat⟩
   rw[HB.out,hBl]
   exact QtF (Cj.nth 1 rfl) (Cj.at_low 1 rfl) hBl hc8.out hm8
  ·have hky:RC.kd=1:=by simpa using hk
   have HP:RP=ON++BD:=by rw[hP.out,if_pos hky]
   have HB:RB=[]:=by rw[hB.out,if_neg (by simp[hky])]
   have hPl:(ON++BD).length=768:=by rw[QCM];omega
   have l1:(putB z768 0 ON).length=768:=by rw[Qbp (by rw[QaJ];omega)];exact QaJ
   replace HP:=hid HP
   replace HB:=hid HB
   have r8:=hid (fun w (h:Blk w g8 5 (BD.map W8++r8))=>(show Rd w (some ⟨g8,0,none⟩) 480 (BD.map W8) from Qft h hBl))
   generalize ON++BD=PK at *
   have hs1:=hid (QsL RC (P:=z768) (vs:=ON) nil8 0 (by rw[QaJ];omega))
   have hs2:=hid (QsL RC (P:=putB z768 0 ON) (vs:=BD.take 480) nil8 288 (by rw[l1,QC5];omega))
   rw[hput.out]at hs2
   generalize putB z768 0 ON=P1 at *
   go_wp2_with (first
    | (refine Ql6 rfl _ rfl (Ch.nth 2 rfl) hON rfl ?_)
    | (refine Qaf rfl rfl 39 _ _ rfl w8.heap.size 20 _ _ (ON.map W8) (Ch.nth 0 rfl) rfl rfl (by rw[QCF,hON];exact Qb6) (by rw[QbG _ QaJ,QCF];omega) (QaH _) ?_;intro w11 hb11 ho11;rw[hs1.out]at hb11
       have Ci:=Ch.write 0 rfl ho11 hb11)
    | (refine Qas rfl _ _ _ _ rfl 5 Tryz.underlying22 Qbt w8.heap.size 308 480 480 _ _ (Ci.nth 0 rfl) (some ⟨g8,0,none⟩) 480 c8 (BD.map W8) (r8.out _ (Ci.nth 1 rfl)) (QaH _) rfl rfl (by rw[QbG _ l1];omega) ?_;intro w13 hb13 ho13;rw[←QD9,hs2.out]at hb13
       have Ck:=Ci.write 0 rfl ho13 hb13)
    | (refine Qs5 rfl _ rfl (Ck.nth 0 rfl) hPl rfl ?_)
    | (refine Qeo rfl rfl _ _ rfl (Ck.nth 4 rfl) rfl rfl hPl rfl hzl ?_;intro w12 hb12 ho12
       have Cj:=Ck.write 4 rfl ho12 hb12)
    | fail)
   refine bodyPost_ret (Qai rfl _ _ _ _ _ _ hb12 rfl Tryz.underlying66 rfl (by rw[QbG _ hPl];exact QfM)) rfl ⟨none,0,by rw[HP.out,HB.out];rfl,?_,Cj.lat⟩
   rw[HB.out]
   exact Qcq _ _ _
 ·have hne:((RE:Int) != 0)=true:=by simp;omega
  have HC:=hcz.out hr
  subst HC
  have HP:RP=z768:=by rw[hP.out,if_neg (fun h=>hr h.1)]
  have HB:RB=[]:=by rw[hB.out,if_neg (fun h=>hr h.1)]
  replace HP:=hid HP
  replace HB:=hid HB
  clear hP hB
  go_wp2_with (first
   | (refine Qb1 rfl rfl _ _ rfl (Cb.nth 1 rfl) rfl rfl rfl ?_;intro w6 hb6 ho6
      have Cc:=Cb.write 1 rfl ho6 hb6)
   | (refine Qdw rfl rfl _ _ rfl (Cc.nth 0 rfl) rfl rfl hON lh ?_;intro w7 hb7 ho7
      have Cd:=Cc.write 0 rfl ho7 hb7)
   | (refine Qaj rfl 66 _ rfl (PC cmd0 z768 nil8) (by simp only[QCT,QC3];exact hb0) ?_)
   | (refine Qeo rfl rfl _ _ rfl (Cd.nth 2 rfl) rfl rfl QaJ rfl hzl ?_;intro w12 hb12 ho12
      have Cj:=Cd.write 2 rfl ho12 hb12)
   | fail)
  refine bodyPost_ret (Qai rfl _ _ _ _ _ _ hb12 rfl Tryz.underlying66 rfl (by rw[QbG _ QaJ];exact QfM)) rfl ⟨none,0,by rw[HP.out,HB.out];rfl,?_,Cj.lat⟩
  rw[HB.out]
  exact Qcq _ _ _
set_option maxRecDepth 100000 in
set_option maxHeartbeats 4000000 in
theorem Qpq (A:Option Addr) (n c:Nat) (k p:List UInt8) (w:World) (hk:RdB w A n k) (hn:n≤140737488355328) (hp:p.length=768):
 Calls Tryz.prog 16 #[.slice A n c,.agg (p.map W8).toArray] w fun e w'=>∃A' c',e= .returned (.tuple #[.agg (PC (unwC k p) (unwP k p) (.slice A' (unwB k p).length c')).toArray,.int .i64 (unwE k p:Nat)])∧OwnB w' w.heap.size A' (unwB k p).length c' (unwB k p)∧Later w w':=by
 have HZ:=hid zcPe
 have C1:=QaW w 53 (p.map W8)
 have C2:=C1.add (Qaa _ (.cells Tryz.zeroCells66 66)) (k:=w.heap.size+1) (by simp) (by omega) ((Blk.new' _ _ Tryz.zeroCells66.toList (by simp)).cast HZ.out)
 clear C1
 have hal:(p.take 32).length=32:=by rw[QC5];omega
 have hPe:=hid (fun (w:World) B d hk' hu=>Qua A B n c 32 d k (p.take 32) w hk' hu hn (by omega))
 have hsl:=Qhh k (p.take 32)
 have hO:=hid (Qq5 (Qc6 k (p.take 32)) p hp hsl)
 have hE:Hid (unwE k p=if Qbf k (p.take 32)=0 then relE (Qc6 k (p.take 32)) p else Qbf k (p.take 32)):=hid rfl
 have hC:Hid (unwC k p=if Qbf k (p.take 32)=0 then relC (Qc6 k (p.take 32)) p else cmd0):=hid rfl
 have hP:Hid (unwP k p=if Qbf k (p.take 32)=0 then relP (Qc6 k (p.take 32)) p else z768):=hid rfl
 have hB:Hid (unwB k p=if Qbf k (p.take 32)=0 then relB (Qc6 k (p.take 32)) p else []):=hid rfl
 have hRPl:=Qmp (Qc6 k (p.take 32)) p hp hsl
 have hsh:Hid (subB p 0 32=p.take 32):=hid rfl
 generalize unwE k p=UE at *
 generalize unwC k p=UC at *
 generalize unwP k p=UP at *
 generalize unwB k p=UB at *
 generalize Qbf k (p.take 32)=ME at *
 generalize relP (Qc6 k (p.take 32)) p=RP at *
 generalize relC (Qc6 k (p.take 32)) p=RC at *
 generalize relB (Qc6 k (p.take 32)) p=RB at *
 generalize relE (Qc6 k (p.take 32)) p=RE at *
 generalize Qc6 k (p.take 32)=S at *
 generalize p.take 32=al at *
 have hb0:=QlB
 have hzl:(PC cmd0 z768 nil8).length=789:=QbG _ QaJ _
 have hz1:=Qx8
 go_enter Tryz.func16,Tryz.ntmps16
 go_wp2_with fail
 (refine (hPe.out _ _ _ (hk.later C2.lat) (QbR (C2.nth 1 rfl) hsh.out hal)).mono ?_);rintro e w3 ⟨rfl,l3⟩
 replace C2:=C2.later l3
 clear hPe l3
 by_cases h0:ME=0
 ·subst h0
  replace hE:=hid (hE.out.trans (if_pos rfl))
  replace hC:=hid (hC.out.trans (if_pos rfl))
  replace hP:=hid (hP.out.trans (if_pos rfl))
  replace hB:=hid (hB.out.trans (if_pos rfl))
  go_wp2_with (first
   | (refine QeC rfl rfl _ _ rfl (Blk.new w3 _ Tryz.zeroCells170.toList) rfl rfl hsl hz1 ?_;intro w4 hb4 ho4
      have C3:=C2.push (Qaa _ _) (QCP _) ho4 hb4)
   | (refine Qe8 rfl _ rfl (C3.nth 0 rfl) hsl rfl ?_)
   | (refine QsS rfl _ rfl (C3.nth 2 rfl) hp rfl ?_)
   | fail)
  (with_reducible refine (hO.out _).mono ?_);rintro e w5 ⟨A5,c5,rfl,o5,l5⟩
  have hone:(Value.slice A5 RB.length c5).oneCell'=true:=rfl
  have C4:=C3.later l5
  have hlow:∀b,(Value.slice A5 RB.length c5).ownBlock=some b→b≠w.heap.size+1:=fun b hb e=>by
   have h1:=(World.ownsRow.lt o5 b hb).1
   have h2:=(C3.nth 1 rfl).lt
   omega
  go_wp2_with (first
   | (refine Qeo rfl rfl _ _ rfl (C4.nth 1 rfl) rfl rfl hRPl hone hzl ?_;intro w6 hb6 ho6
      have C5:=C4.write 1 rfl ho6 hb6
      have o6:=Qhw o5 ho6 hlow)
   | fail)
  refine bodyPost_ret (Qai rfl _ _ _ _ _ _ hb6 rfl Tryz.underlying66 rfl (by rw[QbG _ hRPl];exact QfM)) rfl ⟨A5,c5,by rw[hE.out,hC.out,hP.out,hB.out];rfl,?_,C5.lat⟩
  rw[hB.out]
  exact Qc3 o6 C3.lat.size
 ·have hne:((ME:Int) != 0)=true:=by simp;omega
  replace hE:=hid (hE.out.trans (if_neg h0))
  replace hC:=hid (hC.out.trans (if_neg h0))
  replace hP:=hid (hP.out.trans (if_neg h0))
  replace hB:=hid (hB.out.trans (if_neg h0))
  go_wp2_with (first
   | (refine QeC rfl rfl _ _ rfl (Blk.new w3 _ Tryz.zeroCells170.toList) rfl rfl hsl hz1 ?_;intro w4 hb4 ho4
      have C3:=C2.push (Qaa _ _) (QCP _) ho4 hb4)
   | (refine Qaj rfl 66 _ rfl (PC cmd0 z768 nil8) (by simp only[QCT,QC3];exact hb0) ?_)
   | (refine Qeo rfl rfl _ _ rfl (C3.nth 1 rfl) rfl rfl QaJ rfl hzl ?_;intro w6 hb6 ho6
      have C5:=C3.write 1 rfl ho6 hb6)
   | fail)
  refine bodyPost_ret (Qai rfl _ _ _ _ _ _ hb6 rfl Tryz.underlying66 rfl (by rw[QbG _ QaJ];exact QfM)) rfl ⟨none,0,by rw[hE.out,hC.out,hP.out,hB.out];rfl,?_,C5.lat⟩
  rw[hB.out]
  exact Qcq _ _ _
section
variable {P:Program} {ops:Array Oper} {rest:List Oper} {o:Oper} {a:Act} {w:World} {Q:Exit→Act→World→Prop}
end
end Go.Proofs.YticcbmhcgmhohaaGreat
namespace Go.Proofs.YticcbmhcgmhohaaGreat
open Go.BigFrame
open Go.RowKit
section
variable {P:Program} {ops:Array Oper} {Q:Exit→Act→World→Prop} {T:World→Prop}
end
theorem Spared.later {w w1 w2:World} {bad:List Nat} (h:Spared w bad w1) (hl:Later w1 w2):Spared w bad w2:=
 ⟨QDm h.1 hl.size,fun b hb hn=>(hl.below.block b (QCX hb h.1)).trans (h.2 b hb hn)⟩
theorem Spared.grown {w w1 w2:World} {bad:List Nat} {row:Option Nat} (h:Spared w bad w1) (hg:w1.grownBy w2 row) (hr:∀k,row=some k→w.heap.size≤k):Spared w bad w2:=
 ⟨QDm h.1 hg.size,fun b hb hn=>(hg.block b (QCX hb h.1) (fun e=>by have:=hr b e.symm;omega)).trans (h.2 b hb hn)⟩
theorem Spared.fresh {w w1 w2:World} {bad:List Nat} {g:Nat} (h:Spared w bad w1) (ho:Only g w1 w2) (hg:w.heap.size≤g):Spared w bad w2:=
 h.grown ho (fun k e=>by cases e;exact hg)
end Go.Proofs.YticcbmhcgmhohaaGreat
namespace Go.Proofs.YticcbmhcgmhohaaGreat
open Go.RowKit
open Go.BigFrame
theorem QmW {w:World} {b p n:Nat} {bs:List UInt8} (h:RdB w (some ⟨b,p,none⟩) n bs) (k m:Nat) (hk:k+m≤n) (hk0:0<m):RdB w (some ⟨b,p+k,none⟩) m (subB bs k m):=by
 have h1:=(RdB.cut h (k:=k) (c:=n+1) (by omega) (by omega)).take (m:=m) (by omega)
 rw[show cutA (some ⟨b,p,none⟩) k (n+1)=some ⟨b,p+k,none⟩ by
  rw[cutA,if_neg (by omega)]
  show some ((⟨b,p,none⟩:Addr).add k)=_
  rw[QcK]]at h1
 exact h1
section
variable {ops:Array Oper} {rest:List Oper} {o:Oper} {a:Act} {w:World} {Q:Exit→Act→World→Prop}
end
end Go.Proofs.YticcbmhcgmhohaaGreat
namespace Go.Proofs.YticcbmhcgmhohaaGreat
open Go.RowKit
structure Hp where
 nod:Nod
 delay:Int
 flags:Int
def hp0:Hp:=⟨nod0,0,0⟩
def HC (x:Hp):List Value:=NC x.nod++[.int .i64 x.delay,.int .i64 x.flags]
theorem Qa4 (x:Hp):(HC x).length=68:=by rw[HC,QCM,Qa1];rfl
theorem QoI (x:Hp):∀u∈HC x,u.oneCell'=true:=by
 intro u hu
 rw[HC]at hu
 rcases QD3.1 hu with h|h
 ·exact QyL _ u h
 ·simp only[QCZ,QC0,or_false]at h
  rcases h with rfl|rfl<;>rfl
abbrev RdH:World→Option Addr→Nat→List Hp→Prop:=RdF HC 68 hp0
theorem QjF (x:Hp) {i:Nat} {v:Value} (h:(NC x.nod)[i]?=some v):(HC x)[i]?=some v:=by
 rw[HC,QCW (QCV.1 h).1]
 exact h
theorem QjX (x:Hp):(HC x)[66]?=some (.int .i64 x.delay):=by
 rw[HC,QCR (by rw[Qa1];omega),Qa1]
 rfl
theorem Qkk (x:Hp):(HC x)[67]?=some (.int .i64 x.flags):=by
 rw[HC,QCR (by rw[Qa1];omega),Qa1]
 rfl
end Go.Proofs.YticcbmhcgmhohaaGreat
namespace Go.Proofs.YticcbmhcgmhohaaGreat
open Go.RowKit
open Go.BigFrame
theorem Qg4 {P:Program} {d n k:Nat} {t:TypeId} {f:Field} {fs:List Field} {fs':Array Field} (hf:f.type=t) (hu:P.underlying t=some (.struct fs')) (hst:P.stoodInHeld t=false) (hs:(P.info? t).map (·.size)=some n) (hn:f.name≠ "_")
 {xs ys ps qs:List Value} (ho:f.offset=k) (hp:(xs.drop k).take n=ps) (hq:(ys.drop k).take n=qs) (b:Bool) (w:World) (hb:(Op.eqFields (d+1) ps.toArray qs.toArray fs'.toList).run P w= .ok b w):
 (Op.eqFields (d+2) xs.toArray ys.toArray (f :: fs)).run P w=if b then (Op.eqFields (d+2) xs.toArray ys.toArray fs).run P w else .ok false w:=by
 have e:P.fieldsOf t=fs':=by unfold Program.fieldsOf;rw[hu]
 rw[Op.eqFields,if_pos hn]
 simp only[Sem.run_bind,hf,ho,QdH hu rfl hs xs _ hp,QdH hu rfl hs ys _ hq,Result.andThen_ok]
 rw[run_equalIn_struct w (d+1) t ps.toArray qs.toArray (by rw[e];exact hu) hst,e,hb]
 simp only[Result.andThen_ok]
 cases b<;>simp
theorem Qxn:(Tryz.prog.info? 51).map (·.size)=some 480:=by kernel_rfl
set_option maxRecDepth 100000 in
theorem Qsx (d:Nat) (x y:List UInt8) (hx:x.length=288) (hy:y.length=288) (w:World) {fs:Array Field} (hu:Tryz.prog.underlying 39=some (.struct fs)):
 (Op.eqFields (d+2) (x.map W8).toArray (y.map W8).toArray fs.toList).run Tryz.prog w= .ok (x==y) w:=by
 rw[Tryz.underlying39]at hu
 cases hu
 have l1:∀off n,off+n≤288→(subB x off n).length=n:=fun off n h=>Qaq (by omega)
 have l2:∀off n,off+n≤288→(subB y off n).length=n:=fun off n h=>Qaq (by omega)
 rw[QbH (k:=0) rfl (by decide) rfl (Qbz x 0 32) (Qbz y 0 32) (l1 _ _ (by omega)) (l2 _ _ (by omega)),
  Qdb (k:=32) rfl Tryz.underlying24 QnA Qbt Tryz.underlying5 (by decide) rfl (Qbz x 32 16) (Qbz y 32 16) (l1 _ _ (by omega)) (l2 _ _ (by omega)),
  Qdb (k:=48) rfl Tryz.underlying37 Qxs Qbt Tryz.underlying5 (by decide) rfl (Qbz x 48 240) (Qbz y 48 240) (l1 _ _ (by omega)) (l2 _ _ (by omega)),QcH]
 have h:(x==y)=(subB x 0 32==subB y 0 32&&(subB x 32 16==subB y 32 16&&subB x 48 240==subB y 48 240)):=by
  rw[Qmy x y 48 240 (by omega) (by omega),Qju x y 32 16,Qju x y 0 32]
  rfl
 rw[h]
 cases subB x 0 32==subB y 0 32<;>cases subB x 32 16==subB y 32 16<;>cases subB x 48 240==subB y 48 240<;>rfl
abbrev Y768:={l:List UInt8 // l.length=768}
theorem Qxh:Tryz.prog.eqGuardType Tryz.prog.depth 53=false:=by kernel_rfl
@[go_sem high] theorem Qyv (op:BinOp) (x y:Operand) (xs ys:Array Value) (w:World):(eqGuard op 53 x y (.agg xs) (.agg ys)).run Tryz.prog w= .ok () w:=run_eqGuard_agg w op _ x y xs ys Qxh
set_option maxRecDepth 100000 in
theorem QhS (x y:List UInt8) (hx:x.length=768) (hy:y.length=768) (w:World) {fs:Array Field} (hu:Tryz.prog.underlying 53=some (.struct fs)):
 (Op.eqFields 9999 (x.map W8).toArray (y.map W8).toArray fs.toList).run Tryz.prog w= .ok (x==y) w:=by
 rw[Tryz.underlying53]at hu
 cases hu
 have l1:(subB x 0 288).length=288:=Qaq (by omega)
 have l2:(subB y 0 288).length=288:=Qaq (by omega)
 have l3:(subB x 288 480).length=480:=Qaq (by omega)
 have l4:(subB y 288 480).length=480:=Qaq (by omega)
 rw[Qg4 (d:=9997) (k:=0) rfl Tryz.underlying39 (by kernel_rfl) Qb6 (by decide) rfl (Qbz x 0 288) (Qbz y 0 288) _ w (Qsx 9996 _ _ l1 l2 w Tryz.underlying39),
  Qdb (d:=9997) (k:=288) rfl Tryz.underlying51 Qxn Qbt Tryz.underlying5 (by decide) rfl (Qbz x 288 480) (Qbz y 288 480) l3 l4,QcH]
 have h:(x==y)=(subB x 0 288==subB y 0 288&&subB x 288 480==subB y 288 480):=by
  rw[Qmy x y 288 480 (by omega) (by omega),Qju x y 0 288]
  rfl
 rw[h]
 cases subB x 0 288==subB y 0 288<;>cases subB x 288 480==subB y 288 480<;>rfl
@[go_sem high] theorem QxN (x y:Y768) (w:World):(binOp .eql 53 (.agg (x.val.map W8).toArray) (.agg (y.val.map W8).toArray)).run Tryz.prog w= .ok (.bool (x.val==y.val)) w:=by
  rw[Qgo Tryz.underlying53 (by kernel_rfl),QhS _ _ x.2 y.2 w Tryz.underlying53]
  rfl
@[go_sem high] theorem Qxv (x y:Y768) (w:World):(binOp .neq 53 (.agg (x.val.map W8).toArray) (.agg (y.val.map W8).toArray)).run Tryz.prog w= .ok (.bool (!(x.val==y.val))) w:=by
  rw[QgB Tryz.underlying53 (by kernel_rfl),QhS _ _ x.2 y.2 w Tryz.underlying53]
  rfl
section
variable {ops:Array Oper} {rest:List Oper} {o:Oper} {a:Act} {w:World} {Q:Exit→Act→World→Prop}
end
end Go.Proofs.YticcbmhcgmhohaaGreat
namespace Go.Proofs.YticcbmhcgmhohaaGreat
open Go.ChangeShapes Go.WideShapes Go.ChangeAt Go.RowKit
end Go.Proofs.YticcbmhcgmhohaaGreat
namespace Go.Proofs.YticcbmhcgmhohaaGreat
open Go.ChangeShapes Go.WideShapes Go.ChangeAt Go.RowKit
open _root_.Go.Proofs.YticcbmhcgmhohaaGreat.Rows (uptoBulk uptoBulkAll uptoSmall)
theorem QuE {H:Type} (d:DataW H):1≤uptoBulk d:=by
 cases d with
 | lit l=>cases l<;>simp[uptoBulk]
 | _=>simp[uptoBulk]
theorem Quq {H:Type} {d:DataW H} {l:List (DataW H)} (h:d∈l):uptoBulk d≤uptoBulkAll l:=by
 induction l with
 | nil=>cases h
 | cons x r ih=>
   simp only[uptoBulkAll]
   cases QCZ.1 h with
   | inl e=>subst e;omega
   | inr e=>have:=ih e;omega
theorem Qn1 {H:Type} (l:List (DataW H)):l.length≤uptoBulkAll l:=by
 induction l with
 | nil=>simp[uptoBulkAll]
 | cons x r ih=>have:=QuE x;simp only[uptoBulkAll,QDp];omega
section
variable {H:Type} {enc:TypeId×Value→H} {P:Program} {w:World} {base:Nat} {sp:Nat→Bool} {held:Bool}
theorem Qvl {a:Addr} {c:List Value} (h:w.cells? base a 1=some c):∃u,c=[u]∧w.cell? a=some u:=by
 have e0:a.add 0=a:=by simp[Addr.add]
 unfold World.cells? at h
 split at h
 ·simp only[QER,List.range_zero,QCH,List.mapM_cons,List.mapM_nil,e0]at h
  cases hcc:w.cell? a with
  | none=>simp[hcc]at h
  | some u=>simp[hcc]at h;exact⟨u,h.symm,rfl⟩
 ·cases h
theorem QlR {a:Addr} {u:Value} (h:w.cell? a=some u):a.spot=none∧a.block<w.heap.size:=by
 unfold World.cell? at h
 split at h
 ·rename_i c t fz hc
  refine⟨?_,(Array.getElem?_eq_some_iff.1 hc).1⟩
  cases hs:a.spot with
  | none=>rfl
  | some x=>simp[hs]at h
 ·cases h
theorem Qt2 {t e:TypeId} {fuel:Nat} {v:Value} {x:DataW H×List MemPlace} (ht:P.underlying t=some (.slice e)) (hc:P.cellsOf e=1) (h:DataW.trod enc P w base sp held fuel t [v]=some x):
 ∃A n c,∃(vs:List Value) (xs:List (DataW H×List MemPlace)),v= .slice A n c∧n≤c∧c≤maxLen∧Rd w A n vs∧xs.length=n∧
  (∀ (j:Nat) u,vs[j]?=some u→∃y f,xs[j]?=some y∧DataW.trod enc P w base sp held f e [u]=some y)∧uptoBulkAll (xs.map (·.1))+1≤uptoBulk x.1:=by
 rcases DataW.trod_slice ht h with ⟨hcs,rfl⟩|⟨a,len,cap,elems,rest,n,rfl,hcs,rfl,hb,hl,hm,hlen,hel,hsp,hns⟩
 ·obtain rfl:v= .slice none 0 0:=by simpa using hcs
  exact⟨none,0,0,[],[],rfl,QCP _,Nat.zero_le _,⟨rfl,fun h=>absurd h (by omega)⟩,rfl,fun j u hu=>by simp at hu,by simp[uptoBulk,uptoBulkAll]⟩
 ·obtain rfl:v= .slice (some a) len cap:=by simpa using hcs
  have each:∀i,i<len→∃u y,w.cell? (a.add i)=some u∧elems[i]?=some y∧DataW.trod enc P w base sp held n e [u]=some y:=by
   intro i hi
   have hE:=hel i hi
   rw[hc,QEq]at hE
   have hy:elems[i]?=some (elems[i]'(by omega)):=QCJ _
   rw[hy,Option.bind_eq_some_iff]at hE
   obtain⟨c1,hc1,hy1⟩:=hE
   obtain⟨u,rfl,hu⟩:=Qvl hc1
   exact⟨u,_,hu,hy,hy1⟩
  refine⟨some a,len,cap,(QDu len).map fun i=>(w.cell? (a.add i)).getD undef,elems,rfl,hl,hm,⟨by simp,fun h0=>?_⟩,hlen,fun j u hu=>?_,?_⟩
  ·obtain⟨u,y,hu,_,_⟩:=each 0 h0
   have e0:a.add 0=a:=by simp[Addr.add]
   rw[e0]at hu
   obtain⟨h1,h2⟩:=QlR hu
   obtain⟨b,o,s⟩:=a
   simp only at h1
   subst h1
   refine⟨b,o,rfl,h2,fun j v hv=>?_⟩
   rw[QCY]at hv
   have hj:j<len:=by
    rcases QDJ j len with h|h
    ·exact h
    ·rw[QDV (by simpa using h)]at hv
     cases hv
   obtain⟨u',y',hu',_,_⟩:=each j hj
   rw[QEs hj]at hv
   simp only[QEd,Option.some.injEq,hu',QEL]at hv
   rw[←QcK,hu',hv]
  ·rw[QCY]at hu
   have hj:j<len:=by
    rcases QDJ j len with h|h
    ·exact h
    ·rw[QDV (by simpa using h)]at hu
     cases hu
   obtain⟨u',y',hu',hy',ht'⟩:=each j hj
   rw[QEs hj]at hu
   simp only[QEd,Option.some.injEq,hu',QEL]at hu
   exact⟨y',n,hy',hu ▸ ht'⟩
  ·simp only[uptoBulk]
   omega
theorem Qp0 {t e:TypeId} {fuel:Nat} {v:Value} {x:DataW H×List MemPlace} (ht:P.underlying t=some (.slice e)) (he:P.underlying e=some (.int .u8)) (hc:P.cellsOf e=1) (h:DataW.trod enc P w base sp held fuel t [v]=some x):
 ∃A n c bs,v= .slice A n c∧n≤c∧c≤maxLen∧RdB w A n bs∧bs.length+1≤uptoBulk x.1:=by
 obtain⟨A,n,c,vs,xs,rfl,h1,h2,h3,h4,h5,h6⟩:=Qt2 ht hc h
 have hb:∀(j:Nat) u,vs[j]?=some u→∃b:UInt8,u=W8 b:=by
  intro j u hu
  obtain⟨y,f,_,hy⟩:=h5 j u hu
  obtain⟨m,hm,rfl,hw⟩:=DataW.trod_int he hy
  obtain rfl:u= .int .u8 m:=by simpa using hm
  have hr:0≤m∧m≤255:=by simpa [Lit.wf,IntKind.min,IntKind.max,IntKind.signed,IntKind.bits] using hw
  exact⟨QDe m.toNat,by rw[W8,QDB];congr 1;omega⟩
 have hl:∀l:List Value,(∀ (j:Nat) u,l[j]?=some u→∃b:UInt8,u=W8 b)→∃bs:List UInt8,l=bs.map W8:=by
  intro l
  induction l with
  | nil=>exact fun _=>⟨[],rfl⟩
  | cons u l ih=>
    intro hl
    obtain⟨b,rfl⟩:=hl 0 u rfl
    obtain⟨bs,rfl⟩:=ih fun j v hv=>hl (j+1) v (by simpa using hv)
    exact⟨b :: bs,rfl⟩
 obtain⟨bs,rfl⟩:=hl vs hb
 refine⟨A,n,c,bs,rfl,h1,h2,h3,?_⟩
 have e1:bs.length=n:=by have:=h3.1;simpa using this
 have e2:=Qn1 (xs.map (·.1))
 rw[QCF,h4]at e2
 omega
end
theorem Qzt:Tryz.prog.cellsOf 5=1:=by kernel_rfl
section
variable {H:Type} {enc:TypeId×Value→H} {w:World} {base b0:Nat} {sp:Nat→Bool} {held:Bool} {r:Reach}
set_option maxRecDepth 100000 in
theorem Qjp {t:TypeId} {v:Value} {d:DataW H} {ps:List MemPlace} (ht:Tryz.prog.underlying t=some (.slice 5)) (hval:Value.okWide Tryz.prog w r b0 t v) (h:DataW.Trod enc Tryz.prog w base sp held t v d ps):
 ∃A n c bs,v= .slice A n c∧n≤c∧c≤maxLen∧RdB w A n bs∧bs.length+1≤uptoBulk d:=by
 obtain⟨A,n,c,rfl⟩:=okWide_slice ht hval
 obtain⟨f,hf⟩:=h
 obtain⟨A',n',c',bs,h1,h2⟩:=Qp0 ht Tryz.underlying5 Qzt hf
 exact⟨A',n',c',bs,h1,h2⟩
end
section
variable {H:Type} {enc:TypeId×Value→H} {P:Program} {w:World} {base b0:Nat} {sp:Nat→Bool} {held:Bool} {r:Reach}
end
theorem QoQ {α β:Type} (f:α→Option β):∀(l:List α) (ys:List β),l.mapM f=some ys→ys.length=l.length∧∀(i:Nat) x,l[i]?=some x→f x=ys[i]?
 | [],ys,h=>by
   simp only[List.mapM_nil,pure,Option.some.injEq]at h
   subst h
   exact⟨rfl,fun i x hx=>by simp at hx⟩
 | a :: l,ys,h=>by
   rw[List.mapM_cons]at h
   simp only[bind,Option.bind_eq_some_iff,pure,Option.some.injEq]at h
   obtain⟨y,hy,ys',h',rfl⟩:=h
   obtain⟨h1,h2⟩:=QoQ f l ys' h'
   refine⟨by simp[h1],fun i x hx=>?_⟩
   cases i with
   | zero=>
     obtain rfl:a=x:=by simpa using hx
     simpa using hy
   | succ i=>simpa using h2 i x (by simpa using hx)
theorem Qja {w:World} {base k:Nat} {a:Addr} {cs:List Value} (h:w.cells? base a k=some cs):cs.length=k∧∀i,i<k→w.cell? (a.add i)=cs[i]?:=by
 unfold World.cells? at h
 split at h
 ·obtain⟨h1,h2⟩:=QoQ _ _ _ h
  exact⟨by simpa using h1,fun i hi=>h2 i i (by rw[QEs hi])⟩
 ·cases h
theorem Qei {l:List Value} {i:Nat} {v:Value} (h:(l.drop i).take 1=[v]):l[i]?=some v:=by
 have:=congrArg (·[0]?) h
 simpa [QEm,QDE] using this
section
variable {H:Type} {enc:TypeId×Value→H} {w:World} {base:Nat} {sp:Nat→Bool} {held:Bool}
theorem Qor {fuel:Nat} {cs:List Value} {x:DataW H×List MemPlace} (h:DataW.trod enc Tryz.prog w base sp held fuel 25 cs=some x):∃K:Y32,cs=K.val.map W8:=by
 obtain⟨xs,m,rfl,rfl,hl,hxl,he⟩:=DataW.trod_array Tryz.underlying25 h
 have hn:Tryz.prog.cellsOf 25=32:=by kernel_rfl
 have h1:Tryz.prog.cellsOf 5=1:=by kernel_rfl
 rw[hn]at hl
 rw[h1]at he
 have each:∀i,∃b:UInt8,i<32→cs[i]?=some (W8 b):=by
  intro i
  by_cases hi:i<32
  ·have:=he i hi
   rw[QCJ (by omega),QEq]at this
   obtain⟨z,hz,_,hw⟩:=DataW.trod_int Tryz.underlying5 this
   have hr:0≤z∧z≤255:=by simpa [Lit.wf,IntKind.min,IntKind.max,IntKind.signed,IntKind.bits] using hw
   exact⟨_,fun _=>by rw[Qei hz,QbE z hr.1 (by omega)]⟩
  ·exact⟨0,fun h=>absurd h hi⟩
 obtain⟨f,hf⟩:=Classical.axiomOfChoice each
 refine⟨⟨(QDu 32).map f,by simp⟩,?_⟩
 apply List.ext_getElem?
 intro i
 rcases QDJ i 32 with hi|hi
 ·rw[hf i hi,QCY,QCY,QEs hi]
  rfl
 ·rw[QDV (by omega),QDV (by simp;omega)]
set_option maxRecDepth 100000 in
theorem QuP {fuel:Nat} {cs:List Value} {x:DataW H×List MemPlace} (h:DataW.trod enc Tryz.prog w base sp held fuel 57 cs=some x):∃y:Nod,cs=NC y∧y.nm.size≤uptoBulk x.1:=by
 obtain⟨xs,m,rfl,rfl,hl,hxl,he⟩:=DataW.trod_struct Tryz.underlying57 h
 have hn:Tryz.prog.cellsOf 57=66:=by kernel_rfl
 have hS:Tryz.prog.cellsOf 9=1:=by kernel_rfl
 have hU:Tryz.prog.cellsOf 40=1:=by kernel_rfl
 have hB:Tryz.prog.cellsOf 25=32:=by kernel_rfl
 rw[hn]at hl
 have hxl4:xs.length=4:=hxl
 have e0:DataW.trod enc Tryz.prog w base sp held m 9 ((cs.drop 0).take (Tryz.prog.cellsOf 9))=xs[0]?:=he 0 _ rfl
 have e1:DataW.trod enc Tryz.prog w base sp held m 40 ((cs.drop 1).take (Tryz.prog.cellsOf 40))=xs[1]?:=he 1 _ rfl
 have e2:DataW.trod enc Tryz.prog w base sp held m 25 ((cs.drop 2).take (Tryz.prog.cellsOf 25))=xs[2]?:=he 2 _ rfl
 have e3:DataW.trod enc Tryz.prog w base sp held m 25 ((cs.drop 34).take (Tryz.prog.cellsOf 25))=xs[3]?:=he 3 _ rfl
 rw[hS,QCJ (by omega)]at e0
 rw[hU,QCJ (by omega)]at e1
 rw[hB,QCJ (by omega)]at e2 e3
 obtain⟨s,hs,hx0,_⟩:=DataW.trod_string Tryz.underlying9 e0
 obtain⟨z,hz,_,hw⟩:=DataW.trod_int Tryz.underlying40 e1
 obtain⟨K,hK⟩:=Qor e2
 obtain⟨P,hP⟩:=Qor e3
 have hr:0≤z∧z≤18446744073709551615:=by simpa [Lit.wf,IntKind.min,IntKind.max,IntKind.signed,IntKind.bits] using hw
 have c0:=Qei hs
 have c1:=Qei hz
 rw[Qa9 z hr.1 (by omega)]at c1
 refine⟨⟨s,QC7 z.toNat,K,P⟩,?_,?_⟩
 ·match cs,hl,c0,c1,hK,hP with
  | a :: b :: r,hl,c0,c1,hK,hP=>
    have hrl:r.length=64:=by simpa using hl
    rw[QEr,QEr,QD7]at hK
    rw[show (34:Nat)=32+1+1 from rfl,QEr,QEr,QCQ (by simp;omega)]at hP
    obtain rfl:a= .string s:=by simpa using c0
    obtain rfl:b=W64 (QC7 z.toNat):=by simpa using c1
    rw[NC,←hK,←hP,QDa]
 ·have hb:xs[0].1= .lit (.string s.data.toList):=by rw[hx0]
  have:=Quq (d:=xs[0].1) (l:=xs.map (·.1)) (QDs.2 ⟨_,QD0 _,rfl⟩)
  rw[hb]at this
  simp only[uptoBulk]at this ⊢
  have hsz:s.data.toList.length=s.size:=by simp
  show s.size≤_
  omega
end
section
variable {H:Type} {enc:TypeId×Value→H} {w:World} {base b0:Nat} {sp:Nat→Bool} {held:Bool} {r:Reach}
set_option maxRecDepth 100000 in
theorem QtD {fuel:Nat} {cs:List Value} {x:DataW H×List MemPlace} (h:DataW.trod enc Tryz.prog w base sp held fuel 59 cs=some x):∃y:Hp,cs=HC y:=by
 obtain⟨xs,m,rfl,rfl,hl,hxl,he⟩:=DataW.trod_struct Tryz.underlying59 h
 have hn:Tryz.prog.cellsOf 59=68:=by kernel_rfl
 have hN:Tryz.prog.cellsOf 57=66:=by kernel_rfl
 have hI:Tryz.prog.cellsOf 3=1:=by kernel_rfl
 rw[hn]at hl
 have hxl3:xs.length=3:=hxl
 have e0:DataW.trod enc Tryz.prog w base sp held m 57 ((cs.drop 0).take (Tryz.prog.cellsOf 57))=xs[0]?:=he 0 _ rfl
 have e1:DataW.trod enc Tryz.prog w base sp held m 3 ((cs.drop 66).take (Tryz.prog.cellsOf 3))=xs[1]?:=he 1 _ rfl
 have e2:DataW.trod enc Tryz.prog w base sp held m 3 ((cs.drop 67).take (Tryz.prog.cellsOf 3))=xs[2]?:=he 2 _ rfl
 rw[hN,QCJ (by omega)]at e0
 rw[hI,QCJ (by omega)]at e1 e2
 obtain⟨y,hy,_⟩:=QuP e0
 obtain⟨z1,hz1,_,_⟩:=DataW.trod_int Tryz.underlying3 e1
 obtain⟨z2,hz2,_,_⟩:=DataW.trod_int Tryz.underlying3 e2
 have c1:=Qei hz1
 have c2:=Qei hz2
 refine⟨⟨y,z1,z2⟩,?_⟩
 have hd:cs.drop 66=[.int .i64 z1,.int .i64 z2]:=by
  apply List.ext_getElem?
  intro i
  rw[QDE]
  rcases i with _|_|i
  ·exact c1
  ·exact c2
  ·rw[QDV (by omega),QDV (by simp)]
 rw[HC,←hd]
 rw[QD7]at hy
 show cs=NC y++cs.drop 66
 rw[←hy,QDa]
theorem Qsv {fuel:Nat} {v:Value} {x:DataW H×List MemPlace} (h:DataW.trod enc Tryz.prog w base sp held fuel 23 [v]=some x):
 ∃A n c xs,v= .slice A n c∧n≤c∧RdH w A n xs∧n+1≤uptoBulk x.1:=by
 rcases DataW.trod_slice Tryz.underlying23 h with ⟨hcs,rfl⟩|⟨a,len,cap,elems,rest,n,rfl,hcs,rfl,hb,hl,hm,hlen,hel,hsp,hns⟩
 ·obtain rfl:v= .slice none 0 0:=by simpa using hcs
  exact⟨none,0,0,[],rfl,QCP _,QoU w,by simp[uptoBulk]⟩
 ·obtain rfl:v= .slice (some a) len cap:=by simpa using hcs
  have hc:Tryz.prog.cellsOf 59=68:=by kernel_rfl
  have each:∀i,∃y:Hp,i<len→w.cells? base (a.add (i*68)) 68=some (HC y):=by
   intro i
   by_cases hi:i<len
   ·have hE:=hel i hi
    rw[hc]at hE
    have hy:elems[i]?=some (elems[i]'(by omega)):=QCJ _
    rw[hy,Option.bind_eq_some_iff]at hE
    obtain⟨c1,hc1,hy1⟩:=hE
    obtain⟨y,rfl⟩:=QtD hy1
    exact⟨y,fun _=>hc1⟩
   ·exact⟨hp0,fun h=>absurd h hi⟩
  obtain⟨f,hf⟩:=Classical.axiomOfChoice each
  have hfl:∀j,j<len→((QDu len).map f).getD j hp0=f j:=by
   intro j hj
   rw[QCK,QCY,QEs hj]
   rfl
  have e2:=Qn1 (elems.map (·.1))
  rw[QCF,hlen]at e2
  refine⟨some a,len,cap,(QDu len).map f,rfl,hl,⟨by simp,fun h0=>?_⟩,?_⟩
  ·have e0:a.add (0*68)=a:=by simp[Addr.add]
   have h00:=(Qja (hf 0 h0)).2 0 (by omega)
   rw[e0]at h00
   have e1:a.add 0=a:=by simp[Addr.add]
   rw[e1,show (HC (f 0))[0]?=some (.string (f 0).nod.nm) from rfl]at h00
   obtain⟨h1,h2⟩:=QlR h00
   obtain⟨b,o,s⟩:=a
   simp only at h1
   subst h1
   refine⟨b,o,rfl,h2,fun j i v hj hv=>?_⟩
   rw[hfl j hj]at hv
   have hi:i<68:=by
    have:=(QCV.1 hv).1
    rwa [Qa4]at this
   have:=(Qja (hf j hj)).2 i hi
   rw[QcK,QcK]at this
   rw[this]
   exact hv
  ·simp only[uptoBulk]
   omega
set_option maxRecDepth 100000 in
theorem Qse {v:Value} {d:DataW H} {ps:List MemPlace} (ht:Tryz.prog.underlying 23=some (.slice 59)) (hval:Value.okWide Tryz.prog w r b0 23 v) (h:DataW.Trod enc Tryz.prog w base sp held 23 v d ps):
 ∃A n c xs,v= .slice A n c∧n≤c∧RdH w A n xs∧n+1≤uptoBulk d:=by
 obtain⟨A,n,c,rfl⟩:=okWide_slice ht hval
 obtain⟨f,hf⟩:=h
 obtain⟨A',n',c',ns,h1,h2,h3,h4⟩:=Qsv hf
 exact⟨A',n',c',ns,h1,h2,h3,h4⟩
end
end Go.Proofs.YticcbmhcgmhohaaGreat
