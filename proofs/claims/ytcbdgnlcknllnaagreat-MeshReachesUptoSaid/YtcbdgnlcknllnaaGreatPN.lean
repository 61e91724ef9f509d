/-
  Lemmas for the last text of this claim (part 14 of 20).
-/
import Derived.BigQuiet
import Derived.BigRegion
import Derived.ChangeOld
import Derived.Deep.RegionWith
import Derived.DeepKeys4
import Derived.JoinedCond
import Derived.LaidMore
import Derived.Laws.CopyOwn
import Derived.Laws.Externs
import Derived.Laws.IdiomStrings
import Derived.Laws.Tables
import Derived.Lib.AppendStr
import Derived.Lib.AppendZerosOnto
import Derived.Lib.Mul64
import Derived.Lib.SlBytesConst
import Derived.LoopN
import Derived.Maps.OwnSet
import Derived.OpenShut
import Derived.OrdersHeld
import Derived.ProofKit
import Derived.Shelf.Spec.BitsCarry
import Derived.ShutString
import Derived.Test.YtcbdgnlcknllnaaGreatProg
import Derived.Test.YtcbdgnlcknllnaaGreatRows
import Derived.WalkKit
import Derived.WalkLawsBesides
import Derived.WalkSpells
import Derived.Test.YtcbdgnlcknllnaaGreatPB
import Derived.Test.YtcbdgnlcknllnaaGreatPE
import Derived.Test.YtcbdgnlcknllnaaGreatPH
import Derived.Test.YtcbdgnlcknllnaaGreatPI
import Derived.Test.YtcbdgnlcknllnaaGreatPL
import Derived.Test.YtcbdgnlcknllnaaGreatPM
open Bool renaming and_eq_true → QFQ, eq_iff_iff → QGk
open List renaming replicate → QFu, getElem?_cons_succ → QFv, getElem?_cons_zero → QFw, cons_append → QFy, nil_append → QFz, length_map → QFA, getElem?_eq_getElem → QFB, getD_eq_getElem?_getD → QFC, setIfInBounds_toArray → QFD, length_append → QFF, set_cons_zero → QFG, set_cons_succ → QFH, map_toArray → QFI, take_of_length_le → QFJ, getElem?_append_right → QFK, append_assoc → QFL, length_replicate → QFM, getElem?_map → QFN, not_mem_nil → QFO, mem_cons → QFP, map_nil → QFR, getElem?_append_left → QFS, getElem?_eq_some_iff → QFU, map_cons → QFW, length_take → QFY, length_drop → QF0, map_append → QF2, range → QF6, take_append_drop → QF8, mem_map → QGf, map_replicate → QGg, drop_of_length_le → QGw, getElem_mem → QGy, drop_eq_getElem_cons → QGA, mem_append → QGC, mem_singleton → QGL, drop_drop → QGY, map_take → QG1, range_succ → QG4, getElem_of_mem → QHk, flatten_append → QHF, drop_zero → QHM
open Nat renaming le_refl → QFE, mod_eq_of_lt → QFT, zero_add → QFX, mod_lt → QF1, le_trans → QGh, div_div_eq_div_mul → QGj, pow_succ → QGs, div_add_mod → QGB, mul_comm → QGF, min_eq_left → QGG, mul_assoc → QGO, mul_add → QGP, mul_mod → QGT, le_mul_of_pos_right → QG0, mul_le_mul_left → QG2, mod_mod → QG3, mul_one → QHj, pow_succ' → QHo, zero_mod → QHC, zero_mul → QHJ, pow_zero → QHK, mod_one → QHP
open Option renaming toList_some → QFx
open UInt8 renaming toNat → QHQ
namespace Go.Proofs.YtcbdgnlcknllnaaGreat
open Go.RowKit
open Go.BigFrame
theorem QrB (w:World):Calls Tryz.prog 48 #[NN 9] w fun e w'=>e= .returned (.agg ((nb 9).map W8).toArray)∧Later w w':=by
 have:=Qjs 9 (by decide) w
 rwa [show 9%P25=9 by decide,BB]at this
theorem QxE:Program.built Tryz.prog 141 [(0,Value.int .u32 9)]=some (NL 9).toArray:=by kernel_rfl
set_option maxRecDepth 100000 in
set_option maxHeartbeats 2000000 in
theorem Qkc (A:Option Addr) (n c:Nat) (ks:List UInt8) (w:World) (hk:RdB w A n ks) (hn:n≤140737488355328):
 Calls Tryz.prog 26 #[.slice A n c] w fun e w'=>e= .returned (.tuple #[.agg ((QbH ks (nb 9)).map W8).toArray,.int .i64 (Qbu ks (nb 9):Nat)])∧Later w w':=by
 have B0:=Qbb w 45 (QFu 32 (Value.int .u8 0))
 have cM:=hid (fun (w:World) g d h1 h2=>QlU A (some ⟨g,0,none⟩) n c 32 d ks (nb 9) w h1 h2 hn (by omega))
 have hml:=Qa9 ks (nb 9)
 have h9:=Qch 9
 have cB:=hid QrB
 generalize QbH ks (nb 9)=M at *
 generalize Qbu ks (nb 9)=e9 at *
 generalize nb 9=N9 at *
 go_enter Tryz.func26,Tryz.ntmps26
 go_wp2_with (first
  | (refine Qao rfl 141 _ rfl (NL 9) ?hb ?_;(case hb=>simp only[QFI,QFW,QFR];exact QxE))
  | fail)
 generalize hW:w.alloc _=w0
 replace B0:Bag w w0 [(w.heap.size,45,QFu 32 (Value.int .u8 0))]:=by rw[←hW];exact Qbb w 45 (QFu 32 (Value.int .u8 0))
 clear hW
 (with_reducible refine (cB.out _).mono ?_);rintro e w2 ⟨rfl,hl2⟩
 go_wp2_with (first
  | (refine QaW rfl rfl _ _ rfl (Blk.new w2 _ (QFu 32 (.int .u8 0))) rfl rfl h9 rfl ?_;intro w3 hb3 ho3)
  | fail)
 have B1:=B0.push (hl2.trans (Qaa w2 _)) hl2.size ho3 hb3
 (with_reducible refine (cM.out _ _ _ (hk.later B1.lat) (Qec (B1.nth 0 rfl) h9)).mono ?_);rintro e w4 ⟨rfl,hl4⟩
 go_wp2_with (first
  | (refine QaW rfl rfl _ _ rfl ((B1.later hl4).nth 1 rfl) rfl rfl hml rfl ?_;intro w5 hb5 ho5)
  | fail)
 exact bodyPost_ret (Qaf rfl _ _ _ _ _ _ hb5 rfl Tryz.underlying45 rfl (by rw[QFA,hml];exact Qbk)) rfl ⟨rfl,((B1.later hl4).write 1 rfl ho5 hb5).lat⟩
abbrev sMac:ByteArray:=⟨#[109,97,99]⟩
abbrev Qc9:ByteArray:=⟨#[115,116,114,101,97,109]⟩
abbrev sPay:ByteArray:=⟨#[112,97,121]⟩
abbrev QbX:ByteArray:=⟨#[98,108,105,110,100]⟩
def k4 (s:List UInt8):List UInt8:=derB s sMac++(derB s Qc9++(derB s sPay++derB s QbX))
theorem QgT (s:List UInt8):(k4 s).length=128:=by simp[k4,Qaz]
theorem Qzv (s:List UInt8):QdI s [sMac,Qc9,sPay,QbX] 4=k4 s:=by
 rw[QdI,k4]
 simp
def ofB (s:List UInt8):List UInt8:=if s.length=32 then k4 s else QFu 128 0
def ofE (s:List UInt8):Nat:=if s.length=32 then 0 else 2
theorem Qhw:(Tryz.prog.info? 154).map (·.size)=some 128:=by kernel_rfl
theorem Qva:(Tryz.prog.info? 154).bind (·.zero)=some (.agg (QFu 128 (W8 0)).toArray):=by kernel_rfl
theorem Qrt (p q r s:List UInt8) (hp:p.length=32) (hq:q.length=32) (hr:r.length=32) (hs:s.length=32):
 Program.built Tryz.prog 154 [(0,.agg (p.map W8).toArray),(1,.agg (q.map W8).toArray),(2,.agg (r.map W8).toArray),(3,.agg (s.map W8).toArray)]=some ((p++(q++(r++s))).map W8).toArray:=by
 have h:=Qd1 (n:=128) (pl:=[(0,32),(32,32),(64,32),(96,32)]) Tryz.underlying154 Qva (by kernel_rfl) [(0,0,p),(1,32,q),(2,64,r),(3,96,s)] (by
  intro x hx
  simp only[QFP,QFO,or_false]at hx
  rcases hx with rfl|rfl|rfl|rfl<;>simp[hp,hq,hr,hs])
 rw[show Qe1 (QFu 128 0) ([(0,0,p),(1,32,q),(2,64,r),(3,96,s)].map fun x=>(x.2.1,x.2.2))=p++(q++(r++s)) by
  simp only[QFW,QFR,Qe1]
  rw[show QFu 128 (0:UInt8)=QFu 32 0++(QFu 32 0++(QFu 32 0++QFu 32 0)) by simp]
  rw[QdT _ _ _ (by simp[hp]),QcF _ _ _ _ 32 hp (by simp[hq])]
  rw[←QFL p q,QcF _ _ _ _ 64 (by simp[hp,hq]) (by simp[hr]),←QFL _ r,Qe2 _ _ _ 96 (by simp[hp,hq,hr]) (by simp[hs])]
  simp]at h
 exact h
theorem Qjr:Program.built Tryz.prog 154 []=some ((QFu 128 (0:UInt8)).map W8).toArray:=by
 rw[QGg]
 kernel_rfl
theorem Qon (p q:List UInt8) (hp:p.length=32) (hq:q.length=32):
 Program.built Tryz.prog 154 [(0,.agg (p.map W8).toArray),(1,.agg (q.map W8).toArray)]=some ((p++(q++(QFu 32 0++QFu 32 0))).map W8).toArray:=by
 have h:=Qd1 (n:=128) (pl:=[(0,32),(32,32),(64,32),(96,32)]) Tryz.underlying154 Qva (by kernel_rfl) [(0,0,p),(1,32,q)] (by
  intro x hx
  simp only[QFP,QFO,or_false]at hx
  rcases hx with rfl|rfl<;>simp[hp,hq])
 rw[show Qe1 (QFu 128 0) ([(0,0,p),(1,32,q)].map fun x=>(x.2.1,x.2.2))=p++(q++(QFu 32 0++QFu 32 0)) by
  simp only[QFW,QFR,Qe1]
  rw[show QFu 128 (0:UInt8)=QFu 32 0++(QFu 32 0++(QFu 32 0++QFu 32 0)) by simp]
  rw[QdT _ _ _ (by simp[hp]),QcF _ _ _ _ 32 hp (by simp[hq])]]at h
 exact h
section
variable {ops:Array Oper} {rest:List Oper} {o:Oper} {a:Act} {w:World} {Q:Exit→Act→World→Prop}
theorem QgN (hgd:o.guard=none) (hd:o.dst=none) (x y:Operand) (ho:o.op= .store 154 x y) {g:Nat} {t:TypeId} {l:List Value} {bs:List UInt8} (hg:Blk w g t l) (hx:a.eval x= .pointer (some ⟨g,0,none⟩)) (hy:a.eval y= .agg (bs.map W8).toArray) (hbl:bs.length=128) (hl:l.length=128)
 (h:∀w',Blk w' g t (bs.map W8)→Only g w w'→wpList Tryz.prog ops Q rest a w'):wpList Tryz.prog ops Q (o :: rest) a w:=
 QdB 128 hgd hd x y ho hg hx hy Qhw hbl hl h
theorem QuB (hw:Region.wanted o (yielded ops a.tmps)=true) (x:Operand) (ho:o.op= .load 154 x) {g:Nat} {t:TypeId} {bs:List UInt8} (hb:Blk w g t (bs.map W8)) (hl:bs.length=128) (hx:a.eval x= .pointer (some ⟨g,0,none⟩))
 (h:wpList Tryz.prog ops Q rest (a.put o.dst (.agg (bs.map W8).toArray)) w):wpList Tryz.prog ops Q (o :: rest) a w:=
 Qbo hw _ x ho g t _ hb hx _ Tryz.underlying154 rfl 128 Qhw (by rw[QFA,hl]) h
end
set_option maxRecDepth 100000 in
set_option maxHeartbeats 4000000 in
theorem Qzg (A:Option Addr) (n c:Nat) (s:List UInt8) (w:World) (hx:RdB w A n s) (hc:n≤c) (hn:n≤35184372088832):
 Calls Tryz.prog 116 #[.slice A n c] w fun e w'=>e= .returned (.tuple #[.agg ((ofB s).map W8).toArray,.int .i64 (ofE s:Nat)])∧Later w w':=by
 have hl:=hx.len
 have B0:=Qbb w 154 Tryz.zeroCells154.toList
 have hz0:Tryz.zeroCells154.toList.length=128:=by kernel_rfl
 by_cases h32:n=32
 ·subst h32
  have e1:ofE s=0:=by rw[ofE,if_pos hl]
  have e2:ofB s=k4 s:=by rw[ofB,if_pos hl]
  rw[e1,e2]
  clear e1 e2
  have hD:=hid (fun (w:World) B d h1 h2=>Qkj A B 32 c 4 d s [sMac,Qc9,sPay,QbX] w h1 hc hn h2 (by omega) (by omega) (by intro x hx;simp only[QFP,QFO,or_false]at hx;rcases hx with rfl|rfl|rfl|rfl<;>decide))
  rw[Qzv]at hD
  rw[k4]at *
  have hp:=Qaz s sMac
  have hq:=Qaz s Qc9
  have hr:=Qaz s sPay
  have ht:=Qaz s QbX
  generalize derB s sMac=p at *
  generalize derB s Qc9=q at *
  generalize derB s sPay=r at *
  generalize derB s QbX=t at *
  have hbk:=Qrt p q r t hp hq hr ht
  obtain⟨K,hK⟩:∃K,K=p++(q++(r++t)):=⟨_,rfl⟩
  rw[←hK]at hD hbk ⊢
  have s0:subB K 0 32=p:=by rw[hK,QkG _ _ _ hp]
  have s1:subB K 32 32=q:=by rw[hK,Qb8 _ _ _ _ _ hp hq]
  have s2:subB K 64 32=r:=by rw[hK,←QFL,Qb8 _ _ _ _ _ (by simp[hp,hq]) hr]
  have s3:subB K 96 32=t:=by rw[hK,←QFL,←QFL,QjF _ _ _ _ (by simp[hp,hq,hr]) ht]
  have hKl:K.length=128:=by rw[hK];simp[hp,hq,hr,ht]
  clear hK
  go_enter Tryz.func116,Tryz.ntmps116
  go_wp2_with fail
  generalize hW:(w.alloc _).alloc _=w1
  have B1:Bag w w1 [(w.heap.size,154,Tryz.zeroCells154.toList)]:=by rw[←hW];exact B0.later (Qaa _ _)
  have hS:Strs w1 (some ⟨w.heap.size+1,0,none⟩) 4 [sMac,Qc9,sPay,QbX]:=by
   rw[←hW]
   exact Blk.rd (Blk.new' (w.alloc (.cells Tryz.zeroCells154 154)) 9 [Value.string sMac,Value.string Qc9,Value.string sPay,Value.string QbX] (by simp)) rfl
  clear hW
  (with_reducible refine (hD.out _ _ 4 (hx.later B1.lat) hS).mono ?_);rintro e w2 ⟨g,rfl,hg,hb2,j2⟩
  have B2:=(B1.later j2).add (Qab _) (k:=g) (by have:=(B1.nth 0 rfl).lt;simp;omega) (by have:=B1.lat.size;omega) hb2.drew
  clear hS hb2 hg B0 j2 B1
  go_wp2_with fail
  refine Qad [] [0,1,2,3,4,5,6,7,8,9,10,11,12] [13,14] (by as_aux_lemma=>kernel_rfl) (by as_aux_lemma=>kernel_rfl) (by intro _ _ d _ _ h;cases d<;>exact h) ?_
  simp only[Qah,pick,QFv,QFw,QFx,QFy,QFz]
  repeat (first|go_big_quiet_skip|(go_big_quiet_want;(first|refine Qlg 0 32 _ rfl (B2.nth 0 rfl) rfl Tryz.underlying45 rfl Qfa s0 hp ?_|refine Qlg 32 32 _ rfl (B2.nth 0 rfl) rfl Tryz.underlying45 rfl Qfa s1 hq ?_|refine Qlg 64 32 _ rfl (B2.nth 0 rfl) rfl Tryz.underlying45 rfl Qfa s2 hr ?_|refine Qlg 96 32 _ rfl (B2.nth 0 rfl) rfl Tryz.underlying45 rfl Qfa s3 ht ?_|refine QbL _ _ rfl (K.map W8) (by simp only[QFI,QFW,QFR];exact hbk) ?_);simp only[Act.put,QFD,QFH,QFG];go_big_quiet_on)|(go_big_quiet_step (fail)))
  refine wpQuiet_nil ?_
  go_wp2_with (first
   | (refine QgN rfl rfl _ _ rfl (B2.nth 1 rfl) rfl rfl hKl hz0 ?_;intro w9 hb9 ho9)
   | fail)
  exact bodyPost_ret (Qaf rfl _ _ _ _ _ _ hb9 rfl Tryz.underlying154 rfl (by rw[QFA,hKl];exact Qhw)) rfl ⟨rfl,(B2.write 1 rfl ho9 hb9).lat⟩
 ·have e1:ofE s=2:=by rw[ofE,if_neg (by omega)]
  have e2:ofB s=QFu 128 0:=by rw[ofB,if_neg (by omega)]
  rw[e1,e2]
  clear e1 e2
  have hb0:=Qjr
  have hzl:(QFu 128 (0:UInt8)).length=128:=by simp
  generalize QFu 128 (0:UInt8)=Z at *
  have hne:((n:Int) != 32)=true:=by simp;omega
  go_enter Tryz.func116,Tryz.ntmps116
  go_wp2_with (first
   | (refine Qao rfl 154 _ rfl (Z.map W8) ?hb ?_;(case hb=>simp only[QFI,QFR];exact hb0))
   | (refine QgN rfl rfl _ _ rfl (B0.nth 0 rfl) rfl rfl hzl hz0 ?_;intro w9 hb9 ho9)
   | fail)
  exact bodyPost_ret (Qaf rfl _ _ _ _ _ _ hb9 rfl Tryz.underlying154 rfl (by rw[QFA,hzl];exact Qhw)) rfl ⟨rfl,(Qaa _ _).only ho9 (QFE _)⟩
set_option maxRecDepth 100000 in
set_option maxHeartbeats 4000000 in
theorem Qwz (A:Option Addr) (n c:Nat) (s:List UInt8) (w:World) (hx:RdB w A n s) (hn:n≤35184372088832):
 Calls Tryz.prog 80 #[.slice A n c] w fun e w'=>e= .returned (.tuple #[.agg ((ofB s).map W8).toArray,.int .i64 (ofE s:Nat)])∧Later w w':=by
 have hl:=hx.len
 have B0:=Qbb w 154 Tryz.zeroCells154.toList
 have hz0:Tryz.zeroCells154.toList.length=128:=by kernel_rfl
 by_cases h32:n=32
 ·subst h32
  have e1:ofE s=0:=by rw[ofE,if_pos hl]
  have e2:ofB s=k4 s:=by rw[ofB,if_pos hl]
  rw[e1,e2]
  clear e1 e2
  have d1:=hid (fun (w:World) h=>Qdb A 32 c s sMac w h (by omega) (by decide))
  have d2:=hid (fun (w:World) h=>Qdb A 32 c s Qc9 w h (by omega) (by decide))
  have d3:=hid (fun (w:World) h=>Qdb A 32 c s sPay w h (by omega) (by decide))
  have d4:=hid (fun (w:World) h=>Qdb A 32 c s QbX w h (by omega) (by decide))
  rw[k4]at *
  have hp:=Qaz s sMac
  have hq:=Qaz s Qc9
  have hr:=Qaz s sPay
  have ht:=Qaz s QbX
  generalize derB s sMac=p at *
  generalize derB s Qc9=q at *
  generalize derB s sPay=r at *
  generalize derB s QbX=t at *
  have hbk:=Qon p q hp hq
  have f1:(p++(q++(QFu 32 0++QFu 32 (0:UInt8)))).length=128:=by simp[hp,hq]
  have p1:putB (p++(q++(QFu 32 0++QFu 32 (0:UInt8)))) 64 r=p++(q++(r++QFu 32 (0:UInt8))):=by
   rw[←QFL p q,QcF _ _ _ _ 64 (by simp[hp,hq]) (by simp[hr]),QFL]
  have f2:(p++(q++(r++QFu 32 (0:UInt8)))).length=128:=by simp[hp,hq,hr]
  have p2:putB (p++(q++(r++QFu 32 (0:UInt8)))) 96 t=p++(q++(r++t)):=by
   rw[←QFL q r,←QFL p,Qe2 _ _ _ 96 (by simp[hp,hq,hr]) (by simp[ht])]
   simp
  have f3:(p++(q++(r++t))).length=128:=by simp[hp,hq,hr,ht]
  generalize p++(q++(r++t))=K3 at *
  generalize p++(q++(r++QFu 32 (0:UInt8)))=K2 at *
  generalize p++(q++(QFu 32 0++QFu 32 (0:UInt8)))=K1 at *
  have P1:=hid p1
  have P2:=hid p2
  clear p1 p2
  go_enter Tryz.func80,Tryz.ntmps80
  go_wp2_with fail
  generalize hW:w.alloc _=w1
  replace B0:Bag w w1 [(w.heap.size,154,Tryz.zeroCells154.toList)]:=by rw[←hW];exact B0
  clear hW
  (with_reducible refine (d1.out _ (hx.later B0.lat)).mono ?_);rintro e w2 ⟨rfl,j2⟩
  go_wp2_with fail
  (with_reducible refine (d2.out _ (hx.later (B0.lat.trans j2))).mono ?_);rintro e w3 ⟨rfl,j3⟩
  go_wp2_with (first
   | (refine Qao rfl 154 _ rfl (K1.map W8) ?hb ?_;(case hb=>simp only[QFI,QFW,QFR];exact hbk))
   | (refine QgN rfl rfl _ _ rfl (Blk.new w3 _ Tryz.zeroCells154.toList) rfl rfl f1 hz0 ?_;intro w4 hb4 ho4)
   | fail)
  have B1:=B0.push ((j2.trans j3).trans (Qaa w3 _)) (j2.trans j3).size ho4 hb4
  clear j2 j3 hb4 ho4
  (with_reducible refine (d3.out _ (hx.later B1.lat)).mono ?_);rintro e w5 ⟨rfl,j5⟩
  go_wp2_with (first
   | (refine Qmh 64 32 rfl rfl _ _ rfl ((B1.later j5).nth 0 rfl) rfl rfl Qfa hr (by omega) ?_;intro w6 hb6 ho6;rw[P1.out]at hb6
      have B2:=(B1.later j5).write 0 rfl ho6 hb6)
   | fail)
  clear j5 hb6 ho6 B1
  (with_reducible refine (d4.out _ (hx.later B2.lat)).mono ?_);rintro e w7 ⟨rfl,j7⟩
  go_wp2_with (first
   | (refine Qmh 96 32 rfl rfl _ _ rfl ((B2.later j7).nth 0 rfl) rfl rfl Qfa ht (by omega) ?_;intro w8 hb8 ho8;rw[P2.out]at hb8
      have B3:=(B2.later j7).write 0 rfl ho8 hb8)
   | (refine QuB rfl _ rfl (B3.nth 0 rfl) f3 rfl ?_)
   | (refine QgN rfl rfl _ _ rfl (B3.nth 1 rfl) rfl rfl f3 hz0 ?_;intro w9 hb9 ho9)
   | fail)
  exact bodyPost_ret (Qaf rfl _ _ _ _ _ _ hb9 rfl Tryz.underlying154 rfl (by rw[QFA,f3];exact Qhw)) rfl ⟨rfl,(B3.write 1 rfl ho9 hb9).lat⟩
 ·have e1:ofE s=2:=by rw[ofE,if_neg (by omega)]
  have e2:ofB s=QFu 128 0:=by rw[ofB,if_neg (by omega)]
  rw[e1,e2]
  clear e1 e2
  have hb0:=Qjr
  have hzl:(QFu 128 (0:UInt8)).length=128:=by simp
  generalize QFu 128 (0:UInt8)=Z at *
  have hne:((n:Int) != 32)=true:=by simp;omega
  go_enter Tryz.func80,Tryz.ntmps80
  go_wp2_with (first
   | (refine Qao rfl 154 _ rfl (Z.map W8) ?hb ?_;(case hb=>simp only[QFI,QFR];exact hb0))
   | (refine QgN rfl rfl _ _ rfl (B0.nth 0 rfl) rfl rfl hzl hz0 ?_;intro w9 hb9 ho9)
   | fail)
  exact bodyPost_ret (Qaf rfl _ _ _ _ _ _ hb9 rfl Tryz.underlying154 rfl (by rw[QFA,hzl];exact Qhw)) rfl ⟨rfl,(Qaa _ _).only ho9 (QFE _)⟩
theorem Qk4 (x y:List UInt8) (off n:Nat):(subB x off n==subB y off n&&x.drop (off+n)==y.drop (off+n))=(x.drop off==y.drop off):=by
 rw[QGk]
 simp only[QFQ,beq_iff_eq,subB,←QGY]
 constructor
 ·rintro⟨h1,h2⟩
  rw[←QF8 n (x.drop off),h1,h2,QF8]
 ·intro h
  rw[h]
  exact⟨rfl,rfl⟩
theorem Qn3 (x y:List UInt8) (off n:Nat) (hx:x.length=off+n) (hy:y.length=off+n):(subB x off n==subB y off n)=(x.drop off==y.drop off):=by
 rw[subB,subB,QFJ (by rw[QF0];omega),QFJ (by rw[QF0];omega)]
theorem QbM (x:List UInt8) (off n:Nat):(((x.map W8).drop off).take n)=(subB x off n).map W8:=by rw[subB,QG1,List.map_drop]
abbrev Y128:={l:List UInt8 // l.length=128}
theorem QmQ {P:Program} {t:TypeId} {fs:Array Field} (hu:P.underlying t=some (.struct fs)):P.fieldsOf t=fs:=by unfold Program.fieldsOf;rw[hu]
theorem QAG (d:Nat) (x y:List UInt8) (hx:x.length=128) (hy:y.length=128) (w:World):
 (Op.eqFields (d+2) (x.map W8).toArray (y.map W8).toArray (Tryz.prog.fieldsOf 154).toList).run Tryz.prog w= .ok (x==y) w:=by
 rw[QmQ Tryz.underlying154]
 have l1:∀off,off+32≤128→(subB x off 32).length=32:=fun off h=>Qau (by omega)
 have l2:∀off,off+32≤128→(subB y off 32).length=32:=fun off h=>Qau (by omega)
 rw[Qcg (k:=0) rfl (by decide) rfl (QbM x 0 32) (QbM y 0 32) (l1 _ (by omega)) (l2 _ (by omega)),Qcg (k:=32) rfl (by decide) rfl (QbM x 32 32) (QbM y 32 32) (l1 _ (by omega)) (l2 _ (by omega)),
  Qcg (k:=64) rfl (by decide) rfl (QbM x 64 32) (QbM y 64 32) (l1 _ (by omega)) (l2 _ (by omega)),Qcg (k:=96) rfl (by decide) rfl (QbM x 96 32) (QbM y 96 32) (l1 _ (by omega)) (l2 _ (by omega)),Qdu]
 have h:(x==y)=(subB x 0 32==subB y 0 32&&(subB x 32 32==subB y 32 32&&(subB x 64 32==subB y 64 32&&subB x 96 32==subB y 96 32))):=by
  rw[Qn3 x y 96 32 (by omega) (by omega),Qk4 x y 64 32,Qk4 x y 32 32,Qk4 x y 0 32]
  rfl
 rw[h]
 cases subB x 0 32==subB y 0 32<;>cases subB x 32 32==subB y 32 32<;>cases subB x 64 32==subB y 64 32<;>cases subB x 96 32==subB y 96 32<;>rfl
theorem QxY:Tryz.prog.eqGuardType Tryz.prog.depth 154=false:=by kernel_rfl
theorem Qr4:Tryz.prog.stoodInHeld 154=false:=by kernel_rfl
theorem Qpa:Tryz.prog.underlying 154=some (.struct (Tryz.prog.fieldsOf 154)):=by rw[QmQ Tryz.underlying154];exact Tryz.underlying154
@[go_sem high] theorem Qyd (op:BinOp) (x y:Operand) (xs ys:Array Value) (w:World):(eqGuard op 154 x y (.agg xs) (.agg ys)).run Tryz.prog w= .ok () w:=run_eqGuard_agg w op _ x y xs ys QxY
@[go_sem high] theorem QyM (x y:Y128) (w:World):(binOp .eql 154 (.agg (x.val.map W8).toArray) (.agg (y.val.map W8).toArray)).run Tryz.prog w= .ok (.bool (x.val==y.val)) w:=by
  rw[Qhn Qpa Qr4,QAG 9997 _ _ x.2 y.2]
  rfl
theorem QjH:(Tryz.prog.info? 161).map (·.size)=some 192:=by kernel_rfl
theorem Qqs:(Tryz.prog.info? 156).map (·.size)=some 192:=by kernel_rfl
theorem QAB:(Tryz.prog.info? 161).bind (·.zero)=some (.agg (QFu 192 (W8 0)).toArray):=by kernel_rfl
theorem Qw4:(Tryz.prog.info? 156).bind (·.zero)=some (.agg (QFu 192 (W8 0)).toArray):=by kernel_rfl
theorem put3 (k a s:List UInt8) (hk:k.length=128) (ha:a.length=32) (hs:s.length=32):Qe1 (QFu 192 0) [(0,k),(128,a),(160,s)]=k++(a++s):=by
 simp only[Qe1]
 rw[show QFu 192 (0:UInt8)=QFu 128 0++(QFu 32 0++QFu 32 0) by simp]
 rw[QdT _ _ _ (by simp[hk]),QcF _ _ _ _ 128 hk (by simp[ha]),←QFL,Qe2 _ _ _ 160 (by simp[hk,ha]) (by simp[hs]),QFL]
theorem QqX (k a s:List UInt8) (hk:k.length=128) (ha:a.length=32) (hs:s.length=32):
 Program.built Tryz.prog 161 [(0,.agg (k.map W8).toArray),(1,.agg (a.map W8).toArray),(2,.agg (s.map W8).toArray)]=some ((k++(a++s)).map W8).toArray:=by
 have h:=Qd1 (n:=192) (pl:=[(0,128),(128,32),(160,32)]) Tryz.underlying161 QAB (by kernel_rfl) [(0,0,k),(1,128,a),(2,160,s)] (by
  intro x hx
  simp only[QFP,QFO,or_false]at hx
  rcases hx with rfl|rfl|rfl<;>simp[hk,ha,hs])
 rw[show Qe1 (QFu 192 0) ([(0,0,k),(1,128,a),(2,160,s)].map fun x=>(x.2.1,x.2.2))=k++(a++s) from put3 k a s hk ha hs]at h
 exact h
theorem Qol (k a s:List UInt8) (hk:k.length=128) (ha:a.length=32) (hs:s.length=32):
 Program.built Tryz.prog 156 [(0,.agg (k.map W8).toArray),(1,.agg (a.map W8).toArray),(2,.agg (s.map W8).toArray)]=some ((k++(a++s)).map W8).toArray:=by
 have h:=Qd1 (n:=192) (pl:=[(0,128),(128,32),(160,32)]) Tryz.underlying156 Qw4 (by kernel_rfl) [(0,0,k),(1,128,a),(2,160,s)] (by
  intro x hx
  simp only[QFP,QFO,or_false]at hx
  rcases hx with rfl|rfl|rfl<;>simp[hk,ha,hs])
 rw[show Qe1 (QFu 192 0) ([(0,0,k),(1,128,a),(2,160,s)].map fun x=>(x.2.1,x.2.2))=k++(a++s) from put3 k a s hk ha hs]at h
 exact h
theorem Qok:Program.built Tryz.prog 161 []=some ((QFu 192 (0:UInt8)).map W8).toArray:=by
 rw[QGg]
 kernel_rfl
section
variable {ops:Array Oper} {rest:List Oper} {o:Oper} {a:Act} {w:World} {Q:Exit→Act→World→Prop}
theorem Qhp (hgd:o.guard=none) (hd:o.dst=none) (x y:Operand) (ho:o.op= .store 161 x y) {g:Nat} {t:TypeId} {l:List Value} {bs:List UInt8} (hg:Blk w g t l) (hx:a.eval x= .pointer (some ⟨g,0,none⟩)) (hy:a.eval y= .agg (bs.map W8).toArray) (hbl:bs.length=192) (hl:l.length=192)
 (h:∀w',Blk w' g t (bs.map W8)→Only g w w'→wpList Tryz.prog ops Q rest a w'):wpList Tryz.prog ops Q (o :: rest) a w:=
 QdB 192 hgd hd x y ho hg hx hy QjH hbl hl h
theorem Qwd (hgd:o.guard=none) (hd:o.dst=none) (x y:Operand) (ho:o.op= .store 156 x y) {g:Nat} {t:TypeId} {l:List Value} {bs:List UInt8} (hg:Blk w g t l) (hx:a.eval x= .pointer (some ⟨g,0,none⟩)) (hy:a.eval y= .agg (bs.map W8).toArray) (hbl:bs.length=192) (hl:l.length=192)
 (h:∀w',Blk w' g t (bs.map W8)→Only g w w'→wpList Tryz.prog ops Q rest a w'):wpList Tryz.prog ops Q (o :: rest) a w:=
 QdB 192 hgd hd x y ho hg hx hy Qqs hbl hl h
theorem Qld (hw:Region.wanted o (yielded ops a.tmps)=true) (x:Operand) (ho:o.op= .load 161 x) {g:Nat} {t:TypeId} {bs:List UInt8} (hb:Blk w g t (bs.map W8)) (hl:bs.length=192) (hx:a.eval x= .pointer (some ⟨g,0,none⟩))
 (h:wpList Tryz.prog ops Q rest (a.put o.dst (.agg (bs.map W8).toArray)) w):wpList Tryz.prog ops Q (o :: rest) a w:=
 Qbo hw _ x ho g t _ hb hx _ Tryz.underlying161 rfl 192 QjH (by rw[QFA,hl]) h
theorem QsC (hw:Region.wanted o (yielded ops a.tmps)=true) (x:Operand) (ho:o.op= .load 156 x) {g:Nat} {t:TypeId} {bs:List UInt8} (hb:Blk w g t (bs.map W8)) (hl:bs.length=192) (hx:a.eval x= .pointer (some ⟨g,0,none⟩))
 (h:wpList Tryz.prog ops Q rest (a.put o.dst (.agg (bs.map W8).toArray)) w):wpList Tryz.prog ops Q (o :: rest) a w:=
 Qbo hw _ x ho g t _ hb hx _ Tryz.underlying156 rfl 192 Qqs (by rw[QFA,hl]) h
end
set_option maxRecDepth 100000 in
set_option maxHeartbeats 4000000 in
theorem Qq9 (al s:List UInt8) (hal:al.length=32) (hs:s.length=32) (w:World):
 Calls Tryz.prog 88 #[.agg (al.map W8).toArray,.agg (s.map W8).toArray] w fun e w'=>e= .returned (.tuple #[.agg ((k4 s++(al++s)).map W8).toArray,.int .i64 0])∧Later w w':=by
 have hO:=hid (fun (w:World) g h=>Qzg (some ⟨g,0,none⟩) 32 32 s w h (by omega) (by omega))
 rw[show ofB s=k4 s by rw[ofB,if_pos hs],show ofE s=0 by rw[ofE,if_pos hs]]at hO
 have hkl:=QgT s
 generalize k4 s=K at *
 have hbs:=QqX K al s hkl hal hs
 have hTl:(K++(al++s)).length=192:=by simp[hkl,hal,hs]
 generalize K++(al++s)=T at *
 have hz1:Tryz.zeroCells154.toList.length=128:=by kernel_rfl
 have hz0:Tryz.zeroCells161.toList.length=192:=by kernel_rfl
 have C1:=Qbb w 45 (al.map W8)
 have C2:Bag w ((w.alloc (.cells (al.map W8).toArray 45)).alloc (.cells (s.map W8).toArray 45)) [(w.heap.size+1,45,s.map W8),(w.heap.size,45,al.map W8)]:=
  C1.add (Qaa _ _) (by simp) (by omega) (Blk.new' _ _ _ (by simp))
 have C3:Bag w (((w.alloc (.cells (al.map W8).toArray 45)).alloc (.cells (s.map W8).toArray 45)).alloc (.cells Tryz.zeroCells161 161)) [(w.heap.size+2,161,Tryz.zeroCells161.toList),(w.heap.size+1,45,s.map W8),(w.heap.size,45,al.map W8)]:=
  C2.add (Qaa _ _) (by simp) (by omega) (Blk.new' _ _ _ (by simp))
 clear C1 C2
 go_enter Tryz.func88,Tryz.ntmps88
 go_wp2_with fail
 generalize hW:((w.alloc _).alloc _).alloc _=w0
 replace C3:Bag w w0 [(w.heap.size+2,161,Tryz.zeroCells161.toList),(w.heap.size+1,45,s.map W8),(w.heap.size,45,al.map W8)]:=by rw[←hW];exact C3
 clear hW
 (with_reducible refine (hO.out _ _ (Qec (C3.nth 1 rfl) hs)).mono ?_);rintro e w1 ⟨rfl,j1⟩
 go_wp2_with (first
  | (refine QgN rfl rfl _ _ rfl (Blk.new w1 _ Tryz.zeroCells154.toList) rfl rfl hkl hz1 ?_;intro w2 hb2 ho2
     have C4:=C3.push (j1.trans (Qaa w1 _)) j1.size ho2 hb2)
  | (refine QuB rfl _ rfl (C4.nth 0 rfl) hkl rfl ?_)
  | (refine Qfp rfl _ rfl (C4.nth 3 rfl) hal rfl ?_)
  | (refine Qfp rfl _ rfl (C4.nth 2 rfl) hs rfl ?_)
  | (refine Qao rfl 161 _ rfl (T.map W8) ?hb ?_;(case hb=>simp only[QFI,QFW,QFR];exact hbs))
  | (refine Qhp rfl rfl _ _ rfl (C4.nth 1 rfl) rfl rfl hTl hz0 ?_;intro w9 hb9 ho9)
  | fail)
 exact bodyPost_ret (Qaf rfl _ _ _ _ _ _ hb9 rfl Tryz.underlying161 rfl (by rw[QFA,hTl];exact QjH)) rfl ⟨rfl,(C4.write 1 rfl ho9 hb9).lat⟩
set_option maxRecDepth 100000 in
set_option maxHeartbeats 4000000 in
theorem Qw6 (x b al:List UInt8) (hx:x.length=192) (hb:subB x 96 32=b) (hal:subB x 128 32=al) (w:World):
 Calls Tryz.prog 120 #[.agg (x.map W8).toArray] w fun e w'=>e= .returned (.tuple #[.agg ((QbH b al).map W8).toArray,.int .i64 (Qbu b al:Nat)])∧Later w w':=by
 have hbl:b.length=32:=by rw[←hb];exact Qau (by omega)
 have hall:al.length=32:=by rw[←hal];exact Qau (by omega)
 have hM:=hid (fun (w:World) g h1 h2=>Qpy (some ⟨g,96,none⟩) (some ⟨g,128,none⟩) 32 32 32 32 b al w h1 h2 (by omega) (by omega))
 have hml:=Qa9 b al
 generalize QbH b al=M at *
 generalize Qbu b al=e9 at *
 have C1:=Qbb w 161 (x.map W8)
 have C2:Bag w ((w.alloc (.cells (x.map W8).toArray 161)).alloc (.cells (QFu 32 (Value.int .u8 0)).toArray 45)) [(w.heap.size+1,45,QFu 32 (Value.int .u8 0)),(w.heap.size,161,x.map W8)]:=
  C1.add (Qaa _ _) (by simp) (by omega) (Blk.new' _ _ _ (by simp))
 clear C1
 go_enter Tryz.func120,Tryz.ntmps120
 go_wp2_with fail
 generalize hW:(w.alloc _).alloc _=w0
 replace C2:Bag w w0 [(w.heap.size+1,45,QFu 32 (Value.int .u8 0)),(w.heap.size,161,x.map W8)]:=by rw[←hW];exact C2
 clear hW
 refine Qad [([0,1,2,3,4],5)] [6,7] [8,9] (by as_aux_lemma=>kernel_rfl) (by as_aux_lemma=>kernel_rfl) (by intro _ _ d _ _ h;cases d<;>exact h) ?_
 simp only[Qah,pick,QFv,QFw,QFx,QFy,QFz]
 repeat (go_big_quiet_step (fail))
 refine wpQuiet_nil ?_
 go_wp2_with fail
 (with_reducible refine (hM.out _ _ (Qc3 (C2.drew.nth 1 rfl) hb hbl) (Qc3 (C2.drew.nth 1 rfl) hal hall)).mono ?_);rintro e w2 ⟨rfl,j2⟩
 go_wp2_with fail
 try refine⟨by first|assumption|exact Qab _|exact Qaa _ _|exact Later.refl _,?_⟩
 try simp only[Qah,pick,QFv,QFw,QFx,QFy,QFz]
 repeat (go_big_quiet_step (fail))
 refine wpQuiet_nil ?_
 go_wp2_with (first
  | (refine QaW rfl rfl _ _ rfl ((C2.drew.later j2).nth 0 rfl) rfl rfl hml rfl ?_;intro w9 hb9 ho9)
  | fail)
 exact bodyPost_ret (Qaf rfl _ _ _ _ _ _ hb9 rfl Tryz.underlying45 rfl (by rw[QFA,hml];exact Qbk)) rfl ⟨rfl,((C2.drew.later j2).write 0 rfl ho9 hb9).lat⟩
set_option maxRecDepth 100000 in
set_option maxHeartbeats 4000000 in
theorem QxI (x b al:List UInt8) (hx:x.length=192) (hb:subB x 96 32=b) (hal:subB x 128 32=al) (w:World):
 Calls Tryz.prog 81 #[.agg (x.map W8).toArray] w fun e w'=>e= .returned (.tuple #[.agg ((QbH b al).map W8).toArray,.int .i64 (Qbu b al:Nat)])∧Later w w':=by
 have hbl:b.length=32:=by rw[←hb];exact Qau (by omega)
 have hall:al.length=32:=by rw[←hal];exact Qau (by omega)
 have hM:=hid (fun (w:World) g h1 h2=>QlU (some ⟨g,96,none⟩) (some ⟨g,128,none⟩) 32 32 32 32 b al w h1 h2 (by omega) (by omega))
 have hml:=Qa9 b al
 generalize QbH b al=M at *
 generalize Qbu b al=e9 at *
 have C1:=Qbb w 156 (x.map W8)
 have C2:Bag w ((w.alloc (.cells (x.map W8).toArray 156)).alloc (.cells (QFu 32 (Value.int .u8 0)).toArray 45)) [(w.heap.size+1,45,QFu 32 (Value.int .u8 0)),(w.heap.size,156,x.map W8)]:=
  C1.add (Qaa _ _) (by simp) (by omega) (Blk.new' _ _ _ (by simp))
 clear C1
 go_enter Tryz.func81,Tryz.ntmps81
 go_wp2_with fail
 generalize hW:(w.alloc _).alloc _=w0
 replace C2:Bag w w0 [(w.heap.size+1,45,QFu 32 (Value.int .u8 0)),(w.heap.size,156,x.map W8)]:=by rw[←hW];exact C2
 clear hW
 refine Qad [([0,1,2,3,4],5)] [6,7] [8,9] (by as_aux_lemma=>kernel_rfl) (by as_aux_lemma=>kernel_rfl) (by intro _ _ d _ _ h;cases d<;>exact h) ?_
 simp only[Qah,pick,QFv,QFw,QFx,QFy,QFz]
 repeat (go_big_quiet_step (fail))
 refine wpQuiet_nil ?_
 go_wp2_with fail
 (with_reducible refine (hM.out _ _ (Qc3 (C2.drew.nth 1 rfl) hb hbl) (Qc3 (C2.drew.nth 1 rfl) hal hall)).mono ?_);rintro e w2 ⟨rfl,j2⟩
 go_wp2_with fail
 try refine⟨by first|assumption|exact Qab _|exact Qaa _ _|exact Later.refl _,?_⟩
 try simp only[Qah,pick,QFv,QFw,QFx,QFy,QFz]
 repeat (go_big_quiet_step (fail))
 refine wpQuiet_nil ?_
 go_wp2_with (first
  | (refine QaW rfl rfl _ _ rfl ((C2.drew.later j2).nth 0 rfl) rfl rfl hml rfl ?_;intro w9 hb9 ho9)
  | fail)
 exact bodyPost_ret (Qaf rfl _ _ _ _ _ _ hb9 rfl Tryz.underlying45 rfl (by rw[QFA,hml];exact Qbk)) rfl ⟨rfl,((C2.drew.later j2).write 0 rfl ho9 hb9).lat⟩
def Ql8 (al s:List UInt8):List UInt8:=k4 s++(al++s)
theorem QhT (al s:List UInt8) (h:al.length=32) (hs:s.length=32):(Ql8 al s).length=192:=by simp[Ql8,QgT,h,hs]
theorem Qpe (al s:List UInt8) (h:al.length=32):subB (Ql8 al s) 128 32=al:=by rw[Ql8,Qb8 _ _ _ _ _ (QgT s) h]
theorem Qof (al s:List UInt8):subB (Ql8 al s) 96 32=derB s QbX:=by
 rw[Ql8,k4,show derB s sMac++(derB s Qc9++(derB s sPay++derB s QbX))++(al++s)=(derB s sMac++(derB s Qc9++derB s sPay))++(derB s QbX++(al++s)) by simp only[QFL],
  Qb8 _ _ _ _ _ (by simp[Qaz]) (Qaz _ _)]
def Qdz (ks us:List UInt8):List UInt8:=if Qbu ks us=0 then Ql8 us (QbH ks us) else QFu 192 0
theorem QfH (ks us:List UInt8):(Qdz ks us).length=192:=by
 unfold Qdz
 split
 ·rename_i h
  exact QhT _ _ (QnS h).2 (Qa9 _ _)
 ·exact QFM
theorem QCL:Tryz.zeroCells161.toList.length=192:=by kernel_rfl
theorem QBx:Tryz.zeroCells156.toList=(QFu 192 (0:UInt8)).map W8:=by kernel_rfl
set_option maxRecDepth 100000 in
set_option maxHeartbeats 4000000 in
theorem Qw0 (A B:Option Addr) (n c m d:Nat) (ks us:List UInt8) (w:World) (hk:RdB w A n ks) (hu:RdB w B m us) (hn:n≤140737488355328) (hm:m≤140737488355328):
 Calls Tryz.prog 58 #[.slice A n c,.slice B m d] w fun e w'=>e= .returned (.tuple #[.agg ((Qdz ks us).map W8).toArray,.int .i64 (Qbu ks us:Nat)])∧Later w w':=by
 have hkl:=hk.len
 have hul:=hu.len
 have B0:=Qbb w 161 Tryz.zeroCells161.toList
 have hz0:=QCL
 have hM:=hid (fun (w:World) A B c d h1 h2=>Qpy A B n c m d ks us w h1 h2 hn hm)
 have hml:=Qa9 ks us
 have hP1:=hid (fun (h:Qbu ks us=0)=>show Qdz ks us=Ql8 us (QbH ks us) by rw[Qdz,if_pos h])
 have hP2:=hid (fun (h: ¬Qbu ks us=0)=>show Qdz ks us=QFu 192 0 by rw[Qdz,if_neg h])
 have hlen:=hid (fun (h:Qbu ks us=0)=>(QnS h).2)
 have hPl:=QfH ks us
 generalize Qdz ks us=PL at *
 generalize QbH ks us=M at *
 generalize Qbu ks us=e9 at *
 by_cases he:e9=0
 ·have hP:=hP1.out he
  have hul2:=hlen.out he
  have hS:=hid (fun w=>Qq9 us M hul2 hml w)
  rw[show k4 M++(us++M)=PL from hP.symm]at hS
  obtain rfl:m=32:=by omega
  subst he
  clear hP1 hP2 hlen hP
  have hput:putB (QFu 32 (0:UInt8)) 0 us=us:=QpY _ _ (by simp[hul2])
  have hz32:(QFu 32 (0:UInt8)).length=32:=by simp
  have hzm:(QFu 32 (Value.int .u8 0))=(QFu 32 (0:UInt8)).map W8:=by rw[QGg];rfl
  generalize QFu 32 (0:UInt8)=Z at *
  have HP:=hid hput
  have HZ:=hid hzm
  clear hput hzm
  go_enter Tryz.func58,Tryz.ntmps58
  go_wp2_with fail
  generalize hW:w.alloc _=w0
  replace B0:Bag w w0 [(w.heap.size,161,Tryz.zeroCells161.toList)]:=by rw[←hW];exact B0
  clear hW
  (with_reducible refine (hM.out _ _ _ _ _ (hk.later B0.lat) (hu.later B0.lat)).mono ?_);rintro e w1 ⟨rfl,j1⟩
  go_wp2_with (first
   | (refine QaW rfl rfl _ _ rfl (Blk.new w1 _ (QFu 32 (.int .u8 0))) rfl rfl hml rfl ?_;intro w2 hb2 ho2
      have B1:=B0.push (j1.trans (Qaa w1 _)) j1.size ho2 hb2
      have B2:=B1.add (Qaa w2 (.cells (QFu 32 (Value.int .u8 0)).toArray 45)) (k:=w2.heap.size) (by have h1:=(B1.nth 0 rfl).lt;have h2:=(B1.nth 1 rfl).lt;simp;omega) B1.lat.size ((Blk.new w2 _ (QFu 32 (.int .u8 0))).cast HZ.out))
   | (refine Qyf 0 32 rfl _ _ _ _ rfl 5 Tryz.underlying25 Qb0 (B2.nth 0 rfl) (hu.later B2.lat) rfl rfl (by omega) ?_;intro w3 hb3 ho3
      rw[HP.out]at hb3
      have B3:=B2.write 0 rfl ho3 hb3)
   | (refine Qfp rfl _ rfl (B3.nth 0 rfl) hul2 rfl ?_)
   | (refine Qfp rfl _ rfl (B3.nth 1 rfl) hml rfl ?_)
   | fail)
  (with_reducible refine (hS.out _).mono ?_);rintro e w4 ⟨rfl,j4⟩
  go_wp2_with (first
   | (refine Qhp rfl rfl _ _ rfl ((B3.later j4).nth 2 rfl) rfl rfl hPl hz0 ?_;intro w9 hb9 ho9)
   | fail)
  exact bodyPost_ret (Qaf rfl _ _ _ _ _ _ hb9 rfl Tryz.underlying161 rfl (by rw[QFA,hPl];exact QjH)) rfl ⟨rfl,((B3.later j4).write 2 rfl ho9 hb9).lat⟩
 ·have hP:=hP2.out he
  have hb0:=Qok
  rw[←hP]at hb0
  have hne:((e9:Int) != 0)=true:=by simp;omega
  clear hP1 hP2 hlen hP
  go_enter Tryz.func58,Tryz.ntmps58
  go_wp2_with fail
  generalize hW:w.alloc _=w0
  replace B0:Bag w w0 [(w.heap.size,161,Tryz.zeroCells161.toList)]:=by rw[←hW];exact B0
  clear hW
  (with_reducible refine (hM.out _ _ _ _ _ (hk.later B0.lat) (hu.later B0.lat)).mono ?_);rintro e w1 ⟨rfl,j1⟩
  go_wp2_with (first
   | (refine QaW rfl rfl _ _ rfl (Blk.new w1 _ (QFu 32 (.int .u8 0))) rfl rfl hml rfl ?_;intro w2 hb2 ho2
      have B1:=B0.push (j1.trans (Qaa w1 _)) j1.size ho2 hb2)
   | (refine Qao rfl 161 _ rfl (PL.map W8) ?hb ?_;(case hb=>simp only[QFI,QFR];exact hb0))
   | (refine Qhp rfl rfl _ _ rfl (B1.nth 1 rfl) rfl rfl hPl hz0 ?_;intro w9 hb9 ho9)
   | fail)
  exact bodyPost_ret (Qaf rfl _ _ _ _ _ _ hb9 rfl Tryz.underlying161 rfl (by rw[QFA,hPl];exact QjH)) rfl ⟨rfl,(B1.write 1 rfl ho9 hb9).lat⟩
def QeK:List (List UInt8)→List UInt8→List UInt8×Nat
 | [],at_=>(at_,0)
 | k :: ks,at_=>if Qbu k at_=0 then QeK ks (QbH k at_) else (QFu 32 0,Qbu k at_)
def QcG (us:List UInt8) (ps:List (List UInt8)):List UInt8×Nat:=
 if us.length=32∧∀p∈ps,p.length=32 then QeK ps (nb (QcE us)) else (QFu 32 0,2)
theorem Qgu:∀(ps:List (List UInt8)) (at_:List UInt8),at_.length=32→(QeK ps at_).1.length=32
 | [],_,h=>h
 | k :: ks,at_,_=>by
   unfold QeK
   split
   ·exact Qgu ks _ (Qa9 _ _)
   ·simp
theorem QlP (us:List UInt8) (ps:List (List UInt8)):(QcG us ps).1.length=32:=by
 unfold QcG
 split
 ·exact Qgu _ _ (Qch _)
 ·simp
theorem Qzb (us:List UInt8):QcE us<P25:=by
 unfold QcE
 split
 ·exact QF1 _ Qbt
 ·exact Qbt
theorem Qtu (ps:List (List UInt8)) (k:Nat) (h:k<ps.length):ps.drop k=ps.getD k [] :: ps.drop (k+1):=by
 rw[QGA h,QFC,QFB h]
 rfl
theorem Qqr (ps:List (List UInt8)) (h:∀j,j<ps.length→(ps.getD j []).length=32):∀p∈ps,p.length=32:=by
 intro p hp
 obtain⟨j,hj,e⟩:=QHk hp
 have:=h j hj
 rw[QFC,QFB hj]at this
 rw[←e]
 exact this
theorem Qsg (us:List UInt8) (ps:List (List UInt8)) (k:Nat) (h:k<ps.length) (hk:(ps.getD k []).length≠32):QcG us ps=(QFu 32 0,2):=by
 rw[QcG,if_neg]
 rintro⟨_,ha⟩
 apply hk
 rw[QFC,QFB h]
 exact ha _ (QGy h)
end Go.Proofs.YtcbdgnlcknllnaaGreat
namespace Go.Proofs.YtcbdgnlcknllnaaGreat
namespace Ed
theorem QuN (K:List UInt8) (hK:K.length=32):∀j,j≤255→kval K j=num K/2^(255-j)%2^j
 | 0,_=>by rw[QHK,QHP];rfl
 | j+1,hj=>by
   have ih:=QuN K hK j (by omega)
   have hb:=QuC K (254-j) (by omega)
   have e1:(kbit K (254-j)).toNat=num K/2^(254-j)%2:=by
    unfold kbit
    rw[hb]
    rcases Nat.mod_two_eq_zero_or_one ((K.getD ((254-j)/8) 0).toNat/2^((254-j)%8)) with h|h<;>rw[h]<;>rfl
   show 2*kval K j+(kbit K (254-j)).toNat=_
   rw[e1,ih,show 255-(j+1)=254-j by omega,show 255-j=(254-j)+1 by omega,QGs,←QGj,QGs]
   generalize num K/2^(254-j)=X
   rw[QGF (2^j) 2,Nat.mod_mul]
   omega
theorem QvQ (K:List UInt8) (hK:K.length=32):kval K 255=num K%2^255:=by
 rw[QuN K hK 255 (QFE _)]
 simp
theorem QtY (bs:List UInt8):num (QaZ bs)%8=0∨bs.length≠32:=by
 by_cases h:bs.length=32
 ·left
  have h1:=Qp3 (QaZ bs) 0 (by rw[QbJ];omega)
  rw[QHM]at h1
  have h2:(QaZ bs).getD 0 0=bs.getD 0 0 &&& 248:=by
   rw[QaZ,if_pos h,QFC,List.getElem?_set_ne (by omega),List.getElem?_set_self (by omega)]
   rfl
  have h3:=(Qis ⟨(bs.getD 0 0).toNat,(bs.getD 0 0).toNat_lt⟩).1
  simp only at h3
  rw[h1,h2,UInt8.toNat_and,show QHQ 248=248 from rfl,h3]
  omega
 ·exact .inr h
theorem Qta (bs:List UInt8) (h:bs.length=32):2^254≤num (QaZ bs)∧num (QaZ bs)<2^255:=by
 have h1:=Qmd (QaZ bs) 31 (by rw[QbJ];omega)
 rw[QFJ (by rw[QbJ];omega)]at h1
 have h2:(QaZ bs).getD 31 0=(bs.getD 31 0 &&& 127) ||| 64:=by
  rw[QaZ,if_pos h,QFC,List.getElem?_set_self (by simp;omega)]
  rfl
 have h3:=(Qis ⟨(bs.getD 31 0).toNat,(bs.getD 31 0).toNat_lt⟩).2
 simp only at h3
 have h4:((QaZ bs).getD 31 0).toNat=(bs.getD 31 0).toNat%64+64:=by
  rw[h2,UInt8.toNat_or,UInt8.toNat_and,show QHQ 127=127 from rfl,show QHQ 64=64 from rfl,h3]
 have h5:=QmR ((QaZ bs).take 31)
 rw[QFY,QbJ]at h5
 rw[h4]at h1
 have e:(256:Nat)^31*64=2^254:=by decide
 have e2:(256:Nat)^31*128=2^255:=by decide
 have h6:(256:Nat)^31*64≤256^31*((bs.getD 31 0).toNat%64+64):=QG2 _ (by omega)
 have h7:(256:Nat)^31*((bs.getD 31 0).toNat%64+64)+256^31≤256^31*128:=by
  have hy:(bs.getD 31 0).toNat%64+64+1≤128:=by omega
  generalize (bs.getD 31 0).toNat%64+64=y at hy
  have:=QG2 (256^31) hy
  rw[QGP,QHj]at this
  exact this
 rw[QGG (by omega)]at h5
 omega
def ellN:Nat:=7237005577332262213973186563042994240857116359379907606001950938285454250989
def Kl:List UInt8:=[237,211,245,92,26,99,18,88,214,156,247,162,222,249,222,20,0,0,0,0,0,0,0,0,0,0,0,0,0,0,0,16]
theorem QCN:kval Kl 255=ellN:=by decide +kernel
set_option maxRecDepth 100000 in
theorem ord9:(Lad.at 9 Kl 255).z2=0:=by decide +kernel
theorem QCd {x y d:Fp} (h:x=0) (on:x*x+y*y=1+d*x*x*y*y):y*y=1:=by grobner
theorem QEM {x y d:Fp} (h:x=0):d*x*x*y*y=0:=by grobner
theorem QC2 {x y t:Fp} (h:x=0):x*y+x*y=0*t:=by grobner
theorem QB0 {x y:Fp} (h:x=0) (hy:y*y=1):y*y-x*x=1:=by grobner
section
variable {δ:Fp} (hδ:Qhf δ)
include hδ in
theorem Qze {Q:Pt δ} (h:1-Q.y=0):Q=Pt.zero:=by
 have on:=Q.on
 have hy:Q.y=1:=by clear on;grobner
 have:Q.x*Q.x*(1-δ)=0:=by clear h;grobner
 have hx:Q.x=0:=by
  rcases QdF this with h1|h1
  ·exact (QdF h1).elim id id
  ·exact absurd h1 (QiV hδ)
 exact Pt.ext hx hy
theorem Qw8 {Q:Pt δ} (h:Q.x=0):Q.add hδ Q=Pt.zero:=by
 have hy:Q.y*Q.y=1:=QCd h Q.on
 have ht:tt Q Q=0:=QEM h
 apply Pt.ext
 ·apply Qfs (Qg2 hδ Q Q)
  rw[QjY]
  exact QC2 h
 ·apply Qfs (QgR hδ Q Q)
  rw[QgU,ht]
  exact (QB0 h hy).trans (show (1:Fp)=1*(1-0) by decide)
theorem zero_mul (n:Nat):(Pt.zero:Pt δ).mul hδ n=Pt.zero:=by
 induction n with
 | zero=>rfl
 | succ n ih=>show ((Pt.zero:Pt δ).mul hδ n).add hδ Pt.zero=Pt.zero;rw[ih,Qhg]
structure Ell (L:Nat):Prop where
 kl:kval Kl 255=L
 inv:∀n,n%L≠0→∃m,n*m%L=1
 dbl:∀n,n%L≠0→(n+n)%L≠0
 one:1%L≠0
 clamp:∀bs:List UInt8,bs.length=32→kval (QaZ bs) 255%L≠0
theorem QzQ {L:Nat} (hL:Ell L) {s:Fp} {G:Pt δ} (hp:Par s δ) (hx:toF 9*(1-G.y)=s*(1+G.y)) (hy:1+G.y≠0):G.mul hδ L=Pt.zero:=by
 have h:=(QuL hδ hp hx hy Kl 255).1
 rw[hL.kl]at h
 obtain⟨k,hk,_,hZ⟩:=h
 rw[ord9,Qhc]at hZ
 have hs:=QhV hp
 have hsn:s≠0:=by rintro rfl;revert hs;decide
 rcases QdF hZ.symm with h1|h1
 ·exact absurd h1 (Qba hk hsn)
 ·exact Qze hδ h1
theorem Qns {L:Nat} (hL:Ell L) {s:Fp} {G:Pt δ} (hp:Par s δ) (hx:toF 9*(1-G.y)=s*(1+G.y)) (hy:1+G.y≠0) {n:Nat} (hn:n%L≠0):(G.mul hδ n).x≠0:=by
 intro h0
 have h1:=Qw8 hδ h0
 rw[←QeB]at h1
 obtain⟨m,hm⟩:=hL.inv _ (hL.dbl n hn)
 have h3:G.mul hδ ((n+n)*m)=Pt.zero:=by rw[Qg6,h1,zero_mul]
 have h4:(n+n)*m=L*((n+n)*m/L)+1:=by
  have:=QGB ((n+n)*m) L
  omega
 rw[h4,QeB,Qg6,QzQ hδ hL hp hx hy,zero_mul,Qna,Qiz]at h3
 have hs:=QhV hp
 rw[h3]at hx hy
 have h5:s*2=0:=by
  have:toF 9*(1-1)=s*(1+1):=hx
  clear hx hy hs hp h0 h1
  grobner
 rcases QdF h5 with h6|h6
 ·subst h6
  revert hs
  decide
 ·exact QkI h6
end
theorem Qr9 {p n:Nat} (h:∀a,a%p≠0→a^(p-1)%p=1) (hp:2≤p) (hn:n%p≠0):∃m,n*m%p=1:=by
 refine⟨n^(p-2),?_⟩
 rw[←QHo,show (p-2).succ=p-1 by omega]
 exact h n hn
theorem QvO (a:Nat) (h:a%ellN≠0):a^(ellN-1)%ellN=1:=by
 have:=QEV.2 a (by unfold ellN at h;exact h)
 unfold ellN
 exact this
theorem Qot {n:Nat} (hn:n%ellN≠0):∃m,n*m%ellN=1:=Qr9 (p:=ellN) QvO (by unfold ellN;omega) hn
theorem Qs3 (bs:List UInt8) (h:bs.length=32):kval (QaZ bs) 255%ellN≠0:=by
 rw[QvQ _ (QbJ bs)]
 have h1:=Qta bs h
 have h2:=(QtY bs).resolve_right (fun e=>e h)
 rw[QFT h1.2]
 intro h0
 obtain⟨m,hm⟩:∃m,num (QaZ bs)=8*m:=⟨num (QaZ bs)/8,by omega⟩
 rw[hm]at h0 h1
 have h3:m<ellN:=by unfold ellN;omega
 have h4:m%ellN≠0:=by rw[QFT h3];omega
 obtain⟨r,hr⟩:=Qot h4
 have h5:(8*m)*r%ellN=0:=by rw[QGT,h0,QHJ,QHC]
 rw[QGO,QGT,hr]at h5
 revert h5
 decide
theorem QAJ (n:Nat) (h:n%ellN≠0):(n+n)%ellN≠0:=by
 intro h0
 obtain⟨r,hr⟩:=Qot (n:=2) (by decide)
 have h1:n*(2*r)%ellN=0:=by rw[←QGO,Nat.mul_two,QGT,h0,QHJ,QHC]
 rw[QGT,hr,QHj,QG3]at h1
 exact h h1
theorem ell:∃L,Ell L:=
 ⟨ellN,QCN,fun _ h=>Qot h,QAJ,by decide,Qs3⟩
theorem Ell.prod {L n m:Nat} (hL:Ell L) (hn:n%L≠0) (hm:m%L≠0):n*m%L≠0:=by
 intro h0
 obtain⟨r,hr⟩:=hL.inv n hn
 have h1:n*r*m%L=0:=by rw[show n*r*m=n*m*r by rw[QGO,QGF r m,QGO],QGT,h0,QHJ,QHC]
 rw[QGT,hr,Nat.one_mul,QG3]at h1
 exact hm h1
def From9 (q:Nat):Prop:=q<P25∧∃(L:Nat) (_:Ell L) (s δ:Fp) (hδ:Qhf δ) (_:Par s δ) (G:Pt δ) (n:Nat),toF 9*(1-G.y)=s*(1+G.y)∧1+G.y≠0∧n%L≠0∧toF q=(G.mul hδ n).u s
theorem from9_ne {q:Nat} (h:From9 q):q≠0:=by
 obtain⟨_,L,hL,s,δ,hδ,hp,G,n,hx,hy,hn,he⟩:=h
 rintro rfl
 exact Qns hδ hL hp hx hy hn ((Qut hδ hp).1 he.symm)
theorem from9_nine:From9 9:=by
 obtain⟨s,δ,hδ,hp,G,hx,hy⟩:=Qno (u:=toF 9) (by decide)
 obtain⟨L,hL⟩:=ell
 refine⟨by decide,L,hL,s,δ,hδ,hp,G,1,hx,hy,hL.one,?_⟩
 rw[Qiz]
 have h1:1-G.y≠0:=by
  intro h0
  have hs:=QhV hp
  have hsn:s≠0:=by rintro rfl;revert hs;decide
  rw[h0]at hx
  have:s*(1+G.y)=0:=by rw[←hx];clear hx hs hp hy;grobner
  exact Qba hsn hy this
 unfold Pt.u
 rw[if_neg h1,←hx]
 have:=Qa4 h1
 clear hx hy hp h1
 grobner
theorem from9_step {q:Nat} (h:From9 q) (ks:List UInt8) (hk:ks.length=32):From9 (multN q (QaZ ks)):=by
 have hne:=from9_ne h
 obtain⟨hq,L,hL,s,δ,hδ,hp,G,n,hx,hy,hn,he⟩:=h
 have h0:toF q≠0:=fun h=>hne (Qtc hq h)
 rw[he]at h0
 obtain⟨b1,b2⟩:=Qyk hp h0
 refine⟨QiA _ _,L,hL,s,δ,hδ,hp,G,n*kval (QaZ ks) 255,hx,hy,hL.prod hn (hL.clamp ks hk),?_⟩
 rw[Qg6]
 exact QoH hδ hp (by rw[he];exact b1) b2 (QaZ ks)
end Ed
end Go.Proofs.YtcbdgnlcknllnaaGreat
namespace Go.Proofs.YtcbdgnlcknllnaaGreat
open Go.RowKit
theorem QwR (ks:List UInt8) (q:Nat) (h:q<P25):Qj1 ks (nb q)=Ed.multN q (QaZ ks):=by
 rw[Qj1,QpV q h]
 rfl
theorem Qf5 (ks:List UInt8) (q:Nat) (hk:ks.length=32) (h:q<P25):QbH ks (nb q)=nb (Ed.multN q (QaZ ks))∧Qbu ks (nb q)=if Ed.multN q (QaZ ks)=0 then 5 else 0:=by
 unfold QbH Qbu
 rw[QwR ks q h,if_pos ⟨hk,Qch q⟩,if_pos ⟨hk,Qch q⟩]
 exact⟨rfl,rfl⟩
theorem Qy4:9<P25:=by decide
theorem QCo (ks:List UInt8) (hk:ks.length=32):Qbu ks (nb 9)=0:=by
 rw[(Qf5 ks 9 hk Qy4).2,if_neg (Ed.from9_ne (Ed.from9_step Ed.from9_nine ks hk))]
end Go.Proofs.YtcbdgnlcknllnaaGreat
namespace Go.Proofs.YtcbdgnlcknllnaaGreat
open Go.RowKit
open Go.BigFrame
section
variable {ops:Array Oper} {rest:List Oper} {o:Oper} {a:Act} {w:World} {Q:Exit→Act→World→Prop}
end
def stA (x:List UInt8) (ps:List (List UInt8)):Nat→List UInt8×List (List UInt8)
 | 0=>(QbH x (nb 9),[x])
 | k+1=>(QbH (derB (QcG (ps.getD k []) (stA x ps k).2).1 QbX) (stA x ps k).1,(stA x ps k).2++[derB (QcG (ps.getD k []) (stA x ps k).2).1 QbX])
def secA (x:List UInt8) (ps:List (List UInt8)) (k:Nat):List UInt8:=(QcG (ps.getD k []) (stA x ps k).2).1
def errA (x:List UInt8) (ps:List (List UInt8)) (k:Nat):Nat:=(QcG (ps.getD k []) (stA x ps k).2).2
def Qc7 (x:List UInt8) (ps:List (List UInt8)) (k:Nat):List UInt8:=Ql8 (stA x ps k).1 (secA x ps k)
def goE (x:List UInt8) (ps:List (List UInt8)):Nat→Nat→Nat
 | 0,_=>0
 | r+1,k=>if errA x ps k=0 then goE x ps r (k+1) else errA x ps k
def fitS (x:List UInt8) (ps:List (List UInt8)):Prop:=x.length=32∧1≤ps.length∧ps.length≤5∧∀p∈ps,p.length=32
open Classical in
noncomputable def QeZ (x:List UInt8) (ps:List (List UInt8)):Nat:=if fitS x ps then goE x ps ps.length 0 else 2
def Qeh (x:List UInt8) (ps:List (List UInt8)) (k:Nat):List (List UInt8):=(QF6 k).map (Qc7 x ps)
theorem QeJ (x:List UInt8) (ps:List (List UInt8)) (k:Nat):(stA x ps k).1.length=32:=by
 cases k<;>exact Qa9 _ _
theorem Qi0 (x:List UInt8) (ps:List (List UInt8)) (k:Nat):(secA x ps k).length=32:=QlP _ _
theorem Qdv (x:List UInt8) (ps:List (List UInt8)) (k:Nat):(Qc7 x ps k).length=192:=QhT _ _ (QeJ x ps k) (Qi0 x ps k)
theorem Qgv (x:List UInt8) (ps:List (List UInt8)):∀k,(stA x ps k).2.length=k+1
 | 0=>rfl
 | k+1=>by
   rw[stA]
   simp[Qgv x ps k]
theorem QhE (x:List UInt8) (hx:x.length=32) (ps:List (List UInt8)):∀k,∀p∈(stA x ps k).2,p.length=32
 | 0,p,h=>by
   rw[stA,QGL]at h
   rw[h,hx]
 | k+1,p,h=>by
   rw[stA]at h
   rcases QGC.1 h with h|h
   ·exact QhE x hx ps k p h
   ·rw[QGL.1 h,Qaz]
theorem Qpu (x:List UInt8) (hx:x.length=32) (ps:List (List UInt8)):∀k,∃q,Ed.From9 q∧(stA x ps k).1=nb q
 | 0=>⟨_,Ed.from9_step Ed.from9_nine x hx,(Qf5 x 9 hx Qy4).1⟩
 | k+1=>by
   obtain⟨q,hq,e⟩:=Qpu x hx ps k
   refine⟨_,Ed.from9_step hq (derB (QcG (ps.getD k []) (stA x ps k).2).1 QbX) (Qaz _ _),?_⟩
   rw[stA,e]
   exact (Qf5 _ q (Qaz _ _) hq.1).1
theorem Qxv (x:List UInt8) (hx:x.length=32) (ps:List (List UInt8)) (k:Nat) (b:List UInt8) (hb:b.length=32):Qbu b (stA x ps k).1=0:=by
 obtain⟨q,hq,e⟩:=Qpu x hx ps k
 rw[e,(Qf5 b q hb hq.1).2,if_neg (Ed.from9_ne (Ed.from9_step hq b hb))]
theorem Qoj (x:List UInt8) (ps:List (List UInt8)) (k:Nat):Qeh x ps (k+1)=Qeh x ps k++[Qc7 x ps k]:=by
 rw[Qeh,QG4,QF2]
 rfl
theorem Qlh (x:List UInt8) (ps:List (List UInt8)) (k:Nat):(Qeh x ps k).length=k:=by simp[Qeh]
theorem QkO (x:List UInt8) (ps:List (List UInt8)) (k:Nat):∀s∈Qeh x ps k,s.length=192:=by
 intro s hs
 obtain⟨j,_,rfl⟩:=QGf.1 hs
 exact Qdv x ps j
theorem Qov (x:List UInt8) (ps:List (List UInt8)) (k:Nat):(Qeh x ps (k+1)).flatten.map W8=(Qeh x ps k).flatten.map W8++(Qc7 x ps k).map W8:=by
 rw[Qoj,QHF,QF2]
 simp
theorem QiM (x:List UInt8) (ps:List (List UInt8)) (k:Nat):subB (Qc7 x ps k) 96 32=derB (secA x ps k) QbX:=Qof _ _
theorem Qfi (x:List UInt8) (ps:List (List UInt8)) (k:Nat):subB (Qc7 x ps k) 128 32=(stA x ps k).1:=Qpe _ _ (QeJ x ps k)
def ScP (w0:World) (g8:Nat) (w:World) (v:Value) (p:List UInt8):Prop:=
 (∃ A c,v= .slice A 32 c∧32≤c∧RdB w0 A 32 p)∨(∃ b,v= .slice (some ⟨b,0,none⟩) 32 32∧b≠g8∧p.length=32∧Blk w b 45 (p.map W8))∨(∃ A c base,v= .slice A 32 c∧OwnB w base A 32 c p)
structure ScRow (w0:World) (g8:Nat) (w:World) (v:Value) (sc:List (List UInt8)) (vs:List Value):Prop where
 own:w.ownsRow w0.heap.size 25 1 v sc.length vs
 len:vs.length=sc.length
 each:∀(j:Nat) u p,vs[j]?=some u→sc[j]?=some p→ScP w0 g8 w u p
theorem QwO:(45:TypeId)≠25:=by decide
theorem ne8L:(5:TypeId)≠25:=by decide
theorem QFg:(5:TypeId)≠45:=by decide
theorem ScP.later {w0 w w':World} {g8:Nat} {v:Value} {p:List UInt8} (h:ScP w0 g8 w v p) (j:Later w w'):ScP w0 g8 w' v p:=by
 rcases h with h|⟨b,h1,h2,h3,h4⟩|⟨A,c,base,h1,h2⟩
 ·exact .inl h
 ·exact .inr (.inl ⟨b,h1,h2,h3,h4.later j⟩)
 ·exact .inr (.inr ⟨A,c,base,h1,Qaq h2 j⟩)
theorem ScP.part {w0 w:World} {g8:Nat} {v:Value} {p:List UInt8} (h:ScP w0 g8 w v p) (j:Later w0 w):Part w (fun _=>False) v p:=by
 rcases h with ⟨A,c,rfl,hc,h⟩|⟨b,rfl,_,h3,h4⟩|⟨A,c,base,rfl,h2⟩
 ·exact Qfj (h.later j) hc
 ·exact Qfj (Qec h4 h3) (QFE _)
 ·exact Qfj h2.rd h2.cap
theorem ScP.only {w0 w w':World} {g8:Nat} {v:Value} {p:List UInt8} {l:List Value} (h:ScP w0 g8 w v p) (hg:Blk w g8 45 l) (ho:Only g8 w w'):ScP w0 g8 w' v p:=by
 rcases h with h|⟨b,h1,h2,h3,h4⟩|⟨A,c,base,h1,h2⟩
 ·exact .inl h
 ·exact .inr (.inl ⟨b,h1,h2,h3,h4.only ho h2⟩)
 ·exact .inr (.inr ⟨A,c,base,h1,QaV h2 hg (fun e=>QFg e.symm) ho⟩)
theorem ScP.grown {w0 w w':World} {g8 base sz:Nat} {v v2:Value} {p:List UInt8} {e:TypeId} {n:Nat} {vs:List Value} (h:ScP w0 g8 w v p) (hown:w.ownsRow base e sz v2 n vs) (h1:45≠e) (h2:5≠e) (hg:w.grownBy w' v2.ownBlock):ScP w0 g8 w' v p:=by
 rcases h with h|⟨b,k1,k2,k3,k4⟩|⟨A,c,base',k1,k2⟩
 ·exact .inl h
 ·exact .inr (.inl ⟨b,k1,k2,k3,QcO k4 hown h1 hg⟩)
 ·exact .inr (.inr ⟨A,c,base',k1,QeO k2 hown h2 hg⟩)
theorem ScRow.later {w0 w w':World} {g8:Nat} {v:Value} {sc:List (List UInt8)} {vs:List Value} (h:ScRow w0 g8 w v sc vs) (j:Later w w'):ScRow w0 g8 w' v sc vs:=
 ⟨Qaq h.own j,h.len,fun k u p hu hp=>(h.each k u p hu hp).later j⟩
theorem ScRow.only {w0 w w':World} {g8:Nat} {v:Value} {sc:List (List UInt8)} {vs:List Value} {l:List Value} (h:ScRow w0 g8 w v sc vs) (hg:Blk w g8 45 l) (ho:Only g8 w w'):ScRow w0 g8 w' v sc vs:=
 ⟨QaV h.own hg QwO ho,h.len,fun k u p hu hp=>(h.each k u p hu hp).only hg ho⟩
theorem ScRow.grown {w0 w w':World} {g8 base sz:Nat} {v v2:Value} {sc:List (List UInt8)} {us vs:List Value} {e:TypeId} {n:Nat} (h:ScRow w0 g8 w v sc us) (hown:w.ownsRow base e sz v2 n vs) (h0:25≠e) (h1:45≠e) (h2:5≠e) (hg:w.grownBy w' v2.ownBlock):ScRow w0 g8 w' v sc us:=
 ⟨QeO h.own hown h0 hg,h.len,fun k u p hu hp=>(h.each k u p hu hp).grown hown h1 h2 hg⟩
theorem ScRow.snoc {w0 w w':World} {g8:Nat} {v v' u:Value} {sc:List (List UInt8)} {vs:List Value} {p:List UInt8} (h:ScRow w0 g8 w v sc vs) (hu:ScP w0 g8 w u p) (hg:w.grownBy w' v.ownBlock) (hown:w'.ownsRow w0.heap.size 25 1 v' (sc.length+1) (vs++[u])):ScRow w0 g8 w' v' (sc++[p]) (vs++[u]):=by
 refine⟨by rw[QFF];exact hown,by simp[h.len],fun j x q hx hq=>?_⟩
 by_cases hj:j<vs.length
 ·rw[QFS hj]at hx
  rw[QFS (by rw[←h.len];exact hj)]at hq
  exact (h.each j x q hx hq).grown h.own QwO ne8L hg
 ·rw[QFK (by omega)]at hx
  rw[QFK (by rw[←h.len];omega),←h.len]at hq
  have h0:j-vs.length=0:=by
   have:=(QFU.1 hx).1
   simp at this
   omega
  rw[h0]at hx hq
  cases hx
  cases hq
  exact hu.grown h.own QwO ne8L hg
theorem ScRow.parts {w0 w:World} {g8:Nat} {A:Option Addr} {n c:Nat} {sc:List (List UInt8)} {vs:List Value} (h:ScRow w0 g8 w (.slice A n c) sc vs) (hn:sc.length=n) (j:Later w0 w):Parts w (fun _=>False) A n sc:=by
 have ho:=h.own
 rw[hn]at ho
 exact⟨vs,QcQ ho,fun _ _ _ h=>h,h.len,fun k u p hu hp=>(h.each k u p hu hp).part j⟩
section
variable {P:Program} {ops:Array Oper} {rest:List Oper} {o:Oper} {a:Act} {w:World} {Q:Exit→Act→World→Prop}
end
end Go.Proofs.YtcbdgnlcknllnaaGreat
namespace Go.Proofs.YtcbdgnlcknllnaaGreat
open Go.RowKit
section
variable {P:Program} {ops:Array Oper} {rest:List Oper} {o:Oper} {a:Act} {w:World} {Q:Exit→Act→World→Prop}
theorem QfY (hgd:o.guard=none) (s x:Operand) (t:TypeId) (ho:o.op= .call { callee:=.builtin .append,args:= #[s,x],argTypes:= #[t,t] })
 (e:TypeId) (z:Value) (sz bytes:Nat) (ht:P.underlying t=some (.slice e)) (hinfo:(P.info? e).map (fun i=>(i.zero,i.size,i.bytes))=some (some z,sz,bytes)) (hzs:z.cells.size=sz) (hs0:0<sz)
 (w0:World) (v:Value) (n:Nat) (vs:List Value) (hown:w.ownsRow w0.heap.size e sz v n vs) (hl:Later w0 w)
 (g m c:Nat) (t2:TypeId) (news:List Value) (hb:Blk w g t2 news) (hnl:news.length=m*sz) (h1:∀u∈news,u.oneCell'=true) (hs:a.eval s=v) (hx:a.eval x= .slice (some ⟨g,0,none⟩) m c) (hsz:(n+m)*bytes≤140737488355328) (hby:0<bytes)
 (h:∀v' w',w'.ownsRow w0.heap.size e sz v' (n+m) (vs++news)→Later w0 w'→w.grownBy w' v.ownBlock→wpList P ops Q rest (a.put o.dst v') w'):
 wpList P ops Q (o :: rest) a w:=by
 obtain⟨i,hi,hz,hsize,hbytes⟩:=info_parts hinfo
 have hnm:n+m≤140737488355328:=QGh (QG0 _ hby) hsz
 have hmax:n+m≤maxLen:=by unfold maxLen;omega
 have hcells:∀j u,news[j]?=some u→w.cell? ((⟨g,0,none⟩:Addr).add j)=some u:=by
  intro j u hu
  rw[Qda,QFX]
  exact hb.cellD j hu
 obtain⟨v',w',hrun,h2,h3,_⟩:=run_append_own (P:=P) w w0.heap.size t o.type e i z sz bytes ht hi hz hsize hbytes hzs hs0 v n vs hown ⟨g,0,none⟩ m c news hnl hcells h1 hmax hsz hl.size
 refine wpList_plain hgd fun K hK=>?_
 unfold Oper.wp execOp
 simp only[ho,resolve,invoke,builtin,Sem.run_bind,Sem.run_pure,Result.andThen_ok,QFI,QFW,QFR,hs,hx,hrun]
 exact hK _ _ (h v' w' h2 (hl.grownBy h3 (fun k hk=>(hown.lt k hk).1)) h3)
end
end Go.Proofs.YtcbdgnlcknllnaaGreat
namespace Go.Proofs.YtcbdgnlcknllnaaGreat
open Go.RowKit
open Go.BigFrame
theorem Qkg {x:List UInt8} {ps:List (List UInt8)} (h: ¬fitS x ps):QeZ x ps=2:=by rw[QeZ,if_neg h]
theorem QqS {x:List UInt8} {ps:List (List UInt8)} (h:fitS x ps):QeZ x ps=goE x ps ps.length 0:=by rw[QeZ,if_pos h]
theorem QoQ {w:World} {base sz:Nat} {e:TypeId} {v:Value} {n:Nat} {vs:List Value} (h:w.ownsRow base e sz v n vs):∀b,v.ownBlock=some b→b<w.heap.size:=fun b hb=>(h.lt b hb).2
end Go.Proofs.YtcbdgnlcknllnaaGreat
namespace Go.Proofs.YtcbdgnlcknllnaaGreat
open Go.RowKit
def mulF (f:Nat→List UInt8→Nat):Nat→List (List UInt8)→Nat
 | q,[]=>q
 | q,s :: sc=>mulF f (f q s) sc
theorem QnQ (f:Nat→List UInt8→Nat) (s:List UInt8):∀(sc:List (List UInt8)) (q:Nat),mulF f q (sc++[s])=f (mulF f q sc) s
 | [],_=>rfl
 | t :: sc,q=>QnQ f s sc (f q t)
theorem QmT (f:Nat→List UInt8→Nat) (hf:∀q a b,f (f q a) b=f (f q b) a) (p:List UInt8):∀(sc:List (List UInt8)) (q:Nat),mulF f (f q p) sc=f (mulF f q sc) p
 | [],_=>rfl
 | s :: sc,q=>by
   rw[mulF,mulF,hf,QmT f hf p sc]
theorem Qlm (f:Nat→List UInt8→Nat) (P:Nat→Prop) (hP:∀q s,P q→s.length=32→P (f q s)):∀(sc:List (List UInt8)) (q:Nat),P q→(∀ s∈sc,s.length=32)→P (mulF f q sc)
 | [],_,h,_=>h
 | s :: sc,q,h,hs=>Qlm f P hP sc _ (hP q s h (hs s (by simp))) (fun t ht=>hs t (by simp[ht]))
theorem QmB (f:Nat→List UInt8→Nat) (P:Nat→Prop) (hP:∀q s,P q→s.length=32→P (f q s)) (hB:∀q s,P q→s.length=32→QbH s (nb q)=nb (f q s)) (hE:∀q s,P q→s.length=32→Qbu s (nb q)=0):
 ∀(sc:List (List UInt8)) (q:Nat),P q→(∀ s∈sc,s.length=32)→QeK sc (nb q)=(nb (mulF f q sc),0)
 | [],_,_,_=>rfl
 | s :: sc,q,hq,hs=>by
   have h32:=hs s (by simp)
   rw[QeK,hE q s hq h32,hB q s hq h32,if_pos rfl,QmB f P hP hB hE sc _ (hP q s hq h32) (fun t ht=>hs t (by simp[ht])),mulF]
def mS (q:Nat) (s:List UInt8):Nat:=Ed.multN q (QaZ s)
theorem QA9 (q:Nat) (a b:List UInt8):mS (mS q a) b=mS (mS q b) a:=Ed.multN_comm q (QaZ a) (QaZ b)
theorem Qly (q:Nat) (s:List UInt8) (h:Ed.From9 q) (hs:s.length=32):Ed.From9 (mS q s):=Ed.from9_step h s hs
theorem mS_B (q:Nat) (s:List UInt8) (h:Ed.From9 q) (hs:s.length=32):QbH s (nb q)=nb (mS q s):=(Qf5 s q hs h.1).1
theorem mS_E (q:Nat) (s:List UInt8) (h:Ed.From9 q) (hs:s.length=32):Qbu s (nb q)=0:=by
 rw[(Qf5 s q hs h.1).2,if_neg (Ed.from9_ne (Ed.from9_step h s hs))]
theorem QoW (q:Nat) (sc:List (List UInt8)) (hq:Ed.From9 q) (hs:∀s∈sc,s.length=32):QcG (nb q) sc=(nb (mulF mS q sc),0):=by
 have h:=QmB mS Ed.From9 Qly mS_B mS_E sc q hq hs
 have h2:=QpV q hq.1
 rw[QcG,if_pos ⟨Qch _,hs⟩,h2,h]
theorem QqK (x:List UInt8) (hx:x.length=32) (ps:List (List UInt8)):∀k,(stA x ps k).1=nb (mulF mS 9 (stA x ps k).2)
 | 0=>by
   have e1:(stA x ps 0).1=QbH x (nb 9):=rfl
   have e2:(stA x ps 0).2=[x]:=rfl
   have e3:mulF mS 9 [x]=mS 9 x:=by rw[mulF,mulF]
   rw[e1,e2,e3]
   exact mS_B 9 x Ed.from9_nine hx
 | k+1=>by
   have h9:=Qlm mS Ed.From9 Qly (stA x ps k).2 9 Ed.from9_nine (QhE x hx ps k)
   have ih:=QqK x hx ps k
   have e1:(stA x ps (k+1)).1=QbH (derB (secA x ps k) QbX) (stA x ps k).1:=rfl
   have e2:(stA x ps (k+1)).2=(stA x ps k).2++[derB (secA x ps k) QbX]:=rfl
   have hl:=Qaz (secA x ps k) QbX
   rw[e1,e2]
   clear e1 e2
   generalize derB (secA x ps k) QbX=bl at *
   generalize (stA x ps k).1=al at *
   generalize (stA x ps k).2=sc at *
   rw[ih,QnQ,mS_B _ bl h9 hl]
def Qcr (ks:List (List UInt8)):List (List UInt8):=ks.map fun p=>QbH p (nb 9)
theorem Qn4 (ks:List (List UInt8)) (k:Nat) (h:k<ks.length):(Qcr ks).getD k []=QbH (ks.getD k []) (nb 9):=by
 rw[Qcr,QFC,QFN,QFC,QFB h]
 rfl
theorem Qp1 (x:List UInt8) (hx:x.length=32) (ks:List (List UInt8)) (hk:∀p∈ks,p.length=32) (k:Nat) (h:k<ks.length):
 errA x (Qcr ks) k=0∧secA x (Qcr ks) k=QbH (ks.getD k []) (stA x (Qcr ks) k).1∧Qbu (ks.getD k []) (stA x (Qcr ks) k).1=0:=by
 have hp:(ks.getD k []).length=32:=hk _ (QfA ks k h)
 have hs:=QhE x hx (Qcr ks) k
 have ha:=QqK x hx (Qcr ks) k
 have hpub:=Qn4 ks k h
 have e1:errA x (Qcr ks) k=(QcG ((Qcr ks).getD k []) (stA x (Qcr ks) k).2).2:=rfl
 have e2:secA x (Qcr ks) k=(QcG ((Qcr ks).getD k []) (stA x (Qcr ks) k).2).1:=rfl
 rw[e1,e2,hpub]
 clear e1 e2 hpub
 generalize (stA x (Qcr ks) k).1=al at *
 generalize (stA x (Qcr ks) k).2=sc at *
 generalize ks.getD k []=p at *
 have h9a:=Qlm mS Ed.From9 Qly sc 9 Ed.from9_nine hs
 have hc:=QoW (mS 9 p) sc (Qly 9 p Ed.from9_nine hp) hs
 have hm:=QmT mS QA9 p sc 9
 rw[mS_B 9 p Ed.from9_nine hp,hc,ha,mS_B _ p h9a hp,mS_E _ p h9a hp,hm]
 exact⟨rfl,rfl,rfl⟩
theorem QtI (x:List UInt8) (hx:x.length=32) (ks:List (List UInt8)) (hk:∀p∈ks,p.length=32) (k:Nat) (h:k<ks.length):
 Qdz (ks.getD k []) (stA x (Qcr ks) k).1=Qc7 x (Qcr ks) k:=by
 obtain⟨_,h2,h3⟩:=Qp1 x hx ks hk k h
 rw[Qdz,if_pos h3,Qc7,h2]
end Go.Proofs.YtcbdgnlcknllnaaGreat
namespace Go.Proofs.YtcbdgnlcknllnaaGreat
open Go.RowKit
open Go.BigFrame
set_option maxRecDepth 100000 in
set_option maxHeartbeats 4000000 in
theorem QtK (A B:Option Addr) (n c m d:Nat) (us:List UInt8) (ps:List (List UInt8)) (w:World) (hu:RdB w A n us) (hp:Parts w (fun _=>False) B m ps) (hn:n≤140737488355328) (hm:m≤140737488355328):
 Calls Tryz.prog 79 #[.slice A n c,.slice B m d] w fun e w'=>e= .returned (.tuple #[.agg ((QcG us ps).1.map W8).toArray,.int .i64 ((QcG us ps).2:Nat)])∧Later w w':=by
 have hul:=hu.len
 have hpl:=hp.len
 have B0:=Qbb w 45 (QFu 32 (Value.int .u8 0))
 have cU:=hid (fun w h=>Qqw A n c us w h hn)
 by_cases hn32:n=32
 ·subst hn32
  have eU:Qca us=0:=by rw[Qca,if_pos (by omega)]
  rw[eU]at cU
  have cB:Hid (∀ w,Calls Tryz.prog 48 #[NN (QcE us)] w fun e w'=>e= .returned (.agg ((nb (QcE us)).map W8).toArray)∧Later w w'):=hid (by
   intro w
   have:=Qjs (QcE us) (Qoi us) w
   rwa [QFT (Qzb us),BB]at this)
  have hR:=hid (fun (h:∀p∈ps,p.length=32)=>show QcG us ps=QeK ps (nb (QcE us)) by rw[QcG,if_pos ⟨hul,h⟩])
  have hbad:=hid (fun k h hk=>Qsg us ps k h hk)
  generalize hCR:QcG us ps=CR at *
  generalize QcE us=x1 at *
  go_enter Tryz.func79,Tryz.ntmps79
  go_wp2_with fail
  generalize hW:w.alloc _=w0
  replace B0:Bag w w0 [(w.heap.size,45,QFu 32 (Value.int .u8 0))]:=by rw[←hW];exact Qbb w 45 (QFu 32 (Value.int .u8 0))
  clear hW
  (with_reducible refine (cU.out _ (hu.later B0.lat)).mono ?_);rintro e w1 ⟨rfl,j1⟩
  go_wp2_with (first
   | (refine Qav rfl rfl _ _ rfl (Blk.new w1 _ (QFu 8 (.int .u32 0))) rfl rfl rfl ?_;intro w2 hb2 ho2)
   | fail)
  have B1:=B0.push (j1.trans (Qaa w1 _)) j1.size ho2 hb2
  clear j1 hb2 ho2 B0 cU hCR
  generalize w1.heap.size=g6 at *
  go_loopw [8] (fun i wr=>∃k:Nat,k≤m∧i= .int .i64 k∧Hid (∀ j,j<k→(ps.getD j []).length=32)∧Bag w wr [(g6,141,NL x1),(w.heap.size,45,QFu 32 (Value.int .u8 0))]) (fun i _=>m-(intOf i).toNat)
  case atStart=>exact⟨0,by omega,rfl,hid (fun j h=>by omega),B1⟩
  case round=>
   clear B1
   obtain⟨k,hk,rfl,hall,B1⟩:=hrel
   by_cases hlt:k<m
   ·obtain⟨b,o,Ak,nk,ck,rfl,hb,hck,hcap,hrd,_⟩:=(hp.later B1.lat).at_ hlt
    have hlen:=hrd.len
    have hb2:=hid (fun h=>hbad.out k (by omega) h)
    rw[hlen]at hb2
    have hstep:Hid (nk=32→∀j,j<k+1→(ps.getD j []).length=32):=hid (fun h j hj=>by
     by_cases e:j=k
     ·rw[e,hlen,h]
     ·exact hall.out j (by omega))
    clear hrd hlen
    by_cases h32:nk=32
    ·have hne:((nk:Int) != 32)=false:=by simp;omega
     go_wp2_with fail
     go_roundw
     case rel=>exact⟨k+1,by omega,by go_num,hid (hstep.out h32),B1⟩
     case measure=>simp[intOf];omega
    ·have hne:((nk:Int) != 32)=true:=by simp;omega
     go_wp2_with (first
      | (refine Qao rfl 45 _ rfl (QFu 32 (W8 0)) ?hb ?_;(case hb=>kernel_rfl))
      | (refine QaW (bs:=QFu 32 0) rfl rfl _ _ rfl (B1.nth 1 rfl) rfl (by kernel_rfl) rfl rfl ?_;intro w9 hb9 ho9)
      | fail)
     exact bodyPost_ret (Qaf rfl _ _ _ _ _ _ hb9 rfl Tryz.underlying45 rfl (by rw[QFA,QFM];exact Qbk)) rfl ⟨by rw[hb2.out h32];rfl,(B1.write 1 rfl ho9 hb9).lat⟩
   ·have hall':=hid (Qqr ps (fun j hj=>hall.out j (by omega)))
    have hCR:=hR.out hall'.out
    have hnl:=Qch x1
    have HC:=hid hCR
    clear hCR hR hbad hall
    generalize nb x1=N0 at *
    go_wp2_with (first
     | (refine Qa5 rfl _ rfl (B1.nth 0 rfl) rfl ?_)
     | (go_at_call 48;(with_reducible refine (cB.out _).mono ?_);rintro e w3 ⟨rfl,j3⟩)
     | (refine QaW rfl rfl _ _ rfl (Blk.new w3 _ (QFu 32 (.int .u8 0))) rfl rfl hnl rfl ?_;intro w4 hb4 ho4)
     | fail)
    have B2:=B1.push (j3.trans (Qaa w3 _)) j3.size ho4 hb4
    clear j3 hb4 ho4 B1 cB
    generalize w3.heap.size=g10 at *
    go_loopw [10] (fun i wr=>∃(k:Nat) (at_:List UInt8),k≤m∧i= .int .i64 k∧at_.length=32∧Hid (CR=QeK (ps.drop k) at_)∧Bag w wr [(g10,45,at_.map W8),(g6,141,NL x1),(w.heap.size,45,QFu 32 (Value.int .u8 0))]) (fun i _=>m-(intOf i).toNat)
    case atStart=>exact⟨0,N0,by omega,rfl,hnl,hid (by rw[QHM];exact HC.out),B2⟩
    case round=>
     clear B2
     obtain⟨k,at_,hk,rfl,hal,hch,B2⟩:=hrel
     by_cases hlt:k<m
     ·obtain⟨b,o,Ak,nk,ck,rfl,hb,hck,hcap,hrd,_⟩:=(hp.later B2.lat).at_ hlt
      have hd:=Qtu ps k (by omega)
      have hlen:=hrd.len
      have hl32:(ps.getD k []).length=32:=by
       rw[QFC,QFB (by omega)]
       exact hall'.out _ (QGy _)
      have hch':=hch.out
      rw[hd,QeK]at hch'
      have HCH:=hid hch'
      clear hch hch' hd
      generalize ps.getD k []=p at *
      obtain rfl:nk=32:=by omega
      have cM:=hid (QlU Ak (some ⟨g10,0,none⟩) 32 ck 32 32 p at_ wr.drew (hrd.later (Qab _)) (Qec (B2.drew.nth 0 rfl) hal) (by omega) (by omega))
      have hml:=Qa9 p at_
      generalize QbH p at_=M at *
      by_cases he:Qbu p at_=0
      ·have HE:=HCH.out
       rw[if_pos he]at HE
       replace HE:=hid HE
       rw[he]at cM
       clear HCH he
       go_wp2_with fail
       refine Qad [([0,1,2,3,4],5)] [6,7,8] [9,10] (by as_aux_lemma=>kernel_rfl) (by as_aux_lemma=>kernel_rfl) (by intro _ _ d _ _ h;cases d<;>exact h) ?_
       simp only[Qah,pick,QFv,QFw,QFx,QFy,QFz]
       repeat (go_big_quiet_step (fail))
       refine wpQuiet_nil ?_
       go_wp2_with fail
       (with_reducible refine cM.out.mono ?_);rintro e w5 ⟨rfl,j5⟩
       replace j5:=(Qab _).trans j5
       go_wp2_with fail
       try refine⟨by first|assumption|exact Qab _|exact Qaa _ _|exact Later.refl _,?_⟩
       try simp only[Qah,pick,QFv,QFw,QFx,QFy,QFz]
       repeat (go_big_quiet_step (fail))
       refine wpQuiet_nil ?_
       go_wp2_with (first
        | (refine QaW rfl rfl _ _ rfl ((B2.later j5).nth 0 rfl) rfl rfl hml (by rw[QFA,hal]) ?_;intro w6 hb6 ho6)
        | fail)
       go_roundw
       case rel=>exact⟨k+1,M,by omega,by go_num,hml,HE,(B2.later j5).write 0 rfl ho6 hb6⟩
       case measure=>simp[intOf];omega
      ·have HE:=HCH.out
       rw[if_neg he]at HE
       replace HE:=hid HE
       generalize Qbu p at_=e5 at *
       have hne:((e5:Int) != 0)=true:=by simp;omega
       clear HCH
       go_wp2_with fail
       refine Qad [([0,1,2,3,4],5)] [6,7,8] [9,10] (by as_aux_lemma=>kernel_rfl) (by as_aux_lemma=>kernel_rfl) (by intro _ _ d _ _ h;cases d<;>exact h) ?_
       simp only[Qah,pick,QFv,QFw,QFx,QFy,QFz]
       repeat (go_big_quiet_step (fail))
       refine wpQuiet_nil ?_
       go_wp2_with fail
       (with_reducible refine cM.out.mono ?_);rintro e w5 ⟨rfl,j5⟩
       replace j5:=(Qab _).trans j5
       go_wp2_with fail
       try refine⟨by first|assumption|exact Qab _|exact Qaa _ _|exact Later.refl _,?_⟩
       try simp only[Qah,pick,QFv,QFw,QFx,QFy,QFz]
       repeat (go_big_quiet_step (fail))
       refine wpQuiet_nil ?_
       go_wp2_with (first
        | (refine QaW rfl rfl _ _ rfl ((B2.later j5).nth 0 rfl) rfl rfl hml (by rw[QFA,hal]) ?_;intro w6 hb6 ho6
           have B3:=(B2.later j5).write 0 rfl ho6 hb6)
        | (refine Qao rfl 45 _ rfl (QFu 32 (W8 0)) ?hb ?_;(case hb=>kernel_rfl))
        | (refine QaW (bs:=QFu 32 0) rfl rfl _ _ rfl (B3.nth 2 rfl) rfl (by kernel_rfl) rfl rfl ?_;intro w9 hb9 ho9)
        | fail)
       exact bodyPost_ret (Qaf rfl _ _ _ _ _ _ hb9 rfl Tryz.underlying45 rfl (by rw[QFA,QFM];exact Qbk)) rfl ⟨by rw[HE.out];rfl,(B3.write 2 rfl ho9 hb9).lat⟩
     ·have hd:ps.drop k=[]:=QGw (by omega)
      have hch':=hch.out
      rw[hd,QeK]at hch'
      have HE:=hid hch'
      clear hch' hch hd
      go_wp2_with (first
       | (refine Qfp rfl _ rfl (B2.nth 0 rfl) hal rfl ?_)
       | (refine QaW rfl rfl _ _ rfl (B2.nth 2 rfl) rfl rfl hal rfl ?_;intro w9 hb9 ho9)
       | fail)
      exact bodyPost_ret (Qaf rfl _ _ _ _ _ _ hb9 rfl Tryz.underlying45 rfl (by rw[QFA,hal];exact Qbk)) rfl ⟨by rw[HE.out];rfl,(B2.write 2 rfl ho9 hb9).lat⟩
 ·have eU:Qca us=2:=by rw[Qca,if_neg (by omega)]
  rw[eU]at cU
  have hR:=hid (show QcG us ps=(QFu 32 0,2) by rw[QcG,if_neg (by rintro⟨h,_⟩;omega)])
  generalize QcG us ps=CR at *
  generalize QcE us=x1 at *
  go_enter Tryz.func79,Tryz.ntmps79
  go_wp2_with fail
  generalize hW:w.alloc _=w0
  replace B0:Bag w w0 [(w.heap.size,45,QFu 32 (Value.int .u8 0))]:=by rw[←hW];exact Qbb w 45 (QFu 32 (Value.int .u8 0))
  clear hW
  (with_reducible refine (cU.out _ (hu.later B0.lat)).mono ?_);rintro e w1 ⟨rfl,j1⟩
  go_wp2_with (first
   | (refine Qav rfl rfl _ _ rfl (Blk.new w1 _ (QFu 8 (.int .u32 0))) rfl rfl rfl ?_;intro w2 hb2 ho2
      have B1:=B0.push (j1.trans (Qaa w1 _)) j1.size ho2 hb2)
   | (refine Qao rfl 45 _ rfl (QFu 32 (W8 0)) ?hb ?_;(case hb=>kernel_rfl))
   | (refine QaW (bs:=QFu 32 0) rfl rfl _ _ rfl (B1.nth 1 rfl) rfl (by kernel_rfl) rfl rfl ?_;intro w9 hb9 ho9)
   | fail)
  exact bodyPost_ret (Qaf rfl _ _ _ _ _ _ hb9 rfl Tryz.underlying45 rfl (by rw[QFA,QFM];exact Qbk)) rfl ⟨by rw[hR.out];rfl,(B1.write 1 rfl ho9 hb9).lat⟩
theorem QCG:(Tryz.prog.info? 156).map (fun i=>(i.zero,i.size,i.bytes))=some (some (.agg (QFu 192 (W8 0)).toArray),192,192):=by kernel_rfl
theorem Qzx:(Tryz.prog.info? 156).map (fun i=>(i.zero,i.size))=some (some (.agg (QFu 192 (W8 0)).toArray),192):=by kernel_rfl
theorem QzW:(45:TypeId)≠156:=by decide
theorem ne8R:(5:TypeId)≠156:=by decide
theorem neLR:(25:TypeId)≠156:=by decide
theorem neKR:(154:TypeId)≠156:=by decide
theorem neRL:(156:TypeId)≠25:=by decide
theorem zcRl:Tryz.zeroCells156.toList.length=192:=by rw[QBx,QFA,QFM]
theorem zcKl:Tryz.zeroCells154.toList.length=128:=by kernel_rfl
theorem Qwh (s:List UInt8):subB (k4 s) 96 32=derB s QbX:=by
 rw[k4,show derB s sMac++(derB s Qc9++(derB s sPay++derB s QbX))=(derB s sMac++(derB s Qc9++derB s sPay))++derB s QbX by simp only[QFL],
  QjF _ _ _ _ (by simp[Qaz]) (Qaz _ _)]
set_option maxRecDepth 100000 in
set_option maxHeartbeats 8000000 in
theorem Qmf (A B:Option Addr) (n c m d:Nat) (x:List UInt8) (ps:List (List UInt8)) (w:World) (hx:RdB w A n x) (hn:n≤35184372088832) (hp:Parts w (fun _=>False) B m ps) (hm:m≤140737488355328):
 Calls Tryz.prog 52 #[.slice A n c,.slice B m d] w fun e w'=>Later w w'∧((QeZ x ps≠0∧e= .returned (.tuple #[.slice none 0 0,.int .i64 (QeZ x ps:Nat)]))∨
  (QeZ x ps=0∧∃A' c',e= .returned (.tuple #[.slice A' m c',.int .i64 0])∧m≤c'∧RdK 192 w' A' m (Qeh x ps m))):=by
 have hxl:=hx.len
 have hpsl:=hp.len
 by_cases hok:n=32∧1≤m∧m≤5
 ·obtain⟨rfl,hm1,hm5⟩:=hok
  have k1:((m:Int)==0)=false:=by simp;omega
  have k2:decide ((5:Int)<(m:Int))=false:=decide_eq_false (by omega)
  have hF:=hid (fun (h:∀p∈ps,p.length=32)=>QqS (x:=x) (ps:=ps) ⟨hxl,by omega,by omega,h⟩)
  have hB:=hid (fun (h: ¬ ∀p∈ps,p.length=32)=>Qkg (x:=x) (ps:=ps) (fun f=>h f.2.2.2))
  have hbadk:=hid (fun k (h:k<ps.length) (hk:(ps.getD k []).length≠32) (ha:∀p∈ps,p.length=32)=>hk (ha _ (QfA ps k h)))
  have hPub:=hid (fun (w:World) h=>Qkc A 32 c x w h (by omega))
  have h0l:=Qa9 x (nb 9)
  have hst0:Hid ((stA x ps 0).1=QbH x (nb 9)∧(stA x ps 0).2=[x]):=hid ⟨rfl,rfl⟩
  generalize QeZ x ps=E0 at *
  generalize QbH x (nb 9)=al0 at *
  generalize Qbu x (nb 9)=e0 at *
  go_enter Tryz.func52,Tryz.ntmps52
  go_wp2_with fail
  go_loopw [6] (fun i wr=>∃k:Nat,k≤m∧i= .int .i64 k∧Hid (∀ j,j<k→(ps.getD j []).length=32)∧Later w wr) (fun i _=>m-(intOf i).toNat)
  case atStart=>exact⟨0,by omega,rfl,hid (fun j h=>by omega),Later.refl w⟩
  case round=>
   obtain⟨k,hk,rfl,hall,L⟩:=hrel
   by_cases hlt:k<m
   ·obtain⟨b,o,Ak,nk,ck,rfl,hb,hck,hcap,hrd,_⟩:=(hp.later L).at_ hlt
    have hlen:=hrd.len
    have hb2:=hid (fun h=>hB.out (hbadk.out k (by omega) h))
    rw[hlen]at hb2
    have hstep:Hid (nk=32→∀j,j<k+1→(ps.getD j []).length=32):=hid (fun h j hj=>by
     by_cases e:j=k
     ·rw[e,hlen,h]
     ·exact hall.out j (by omega))
    clear hrd hlen
    by_cases h32:nk=32
    ·have hne:((nk:Int) != 32)=false:=by simp;omega
     go_wp2_with fail
     refine⟨⟨k+1,by omega,by go_num,hid (hstep.out h32),L⟩,by simp only[intOf];omega⟩
    ·have hne:((nk:Int) != 32)=true:=by simp;omega
     go_wp2_with fail
     go_ret2
     exact⟨L,.inl (by rw[hb2.out h32];exact⟨by decide,rfl⟩)⟩
   ·have hall':=Qqr ps (fun j hj=>hall.out j (by omega))
    have hE:=hF.out hall'
    have HE:=hid hE
    have HA:=hid hall'
    clear hF hB hbadk hall hall' hE
    go_wp2_with fail
    (with_reducible refine (hPub.out _ (hx.later L)).mono ?_);rintro e w1 ⟨rfl,j1⟩
    go_wp2_with (first
     | (refine QaW rfl rfl _ _ rfl (Blk.new w1 _ (QFu 32 (.int .u8 0))) rfl rfl h0l rfl ?_;intro w2 hb2 ho2)
     | fail)
    have L1:=L.trans j1
    have hg8:w.heap.size≤w1.heap.size:=L1.size
    have L2:=(L1.trans (Qaa w1 (.cells (QFu 32 (Value.int .u8 0)).toArray 45))).only ho2 hg8
    (with_reducible refine (QbD A 32 c x _ (hx.later L2) (by omega)).mono ?_);rintro e w3 ⟨A3,c3,rfl,o3,j3⟩
    go_wp2_with fail
    have a3:=Qaa w3 (.cells #[.slice A3 32 c3] 25)
    have hal:=(hb2.later j3).later a3
    have L3:=L2.trans j3
    have L4:=L3.trans a3
    have hsc:ScRow w w1.heap.size (w3.alloc (.cells #[.slice A3 32 c3] 25)) (.slice (some ⟨w3.heap.size,0,none⟩) 1 1) [x] [.slice A3 32 c3]:=
     ⟨Qbc (QfE w3 25 [.slice A3 32 c3] (by simp)) L3.size,rfl,fun j u p hu hp=>by
       have hj:j=0:=by have:=(QFU.1 hu).1;simpa using this
       subst hj
       cases hu
       cases hp
       exact .inr (.inr ⟨A3,c3,_,rfl,Qaq o3 a3⟩)⟩
    clear hb2 ho2 o3 j3 a3 j1 L1 L2 L3 L hPub
    generalize w3.alloc _=w4 at *
    generalize w1.heap.size=g8 at *
    go_loopw [9,10,11] (fun u v i wr=>∃(k:Nat) (vs:List Value),k≤m∧i= .int .i64 k∧wr.ownsRow w.heap.size 156 192 v k ((Qeh x ps k).flatten.map W8)∧ScRow w g8 wr u (stA x ps k).2 vs∧Blk wr g8 45 ((stA x ps k).1.map W8)∧Later w wr∧Hid (E0=goE x ps (m-k) k)) (fun _ _ i _=>m-(intOf i).toNat)
    case atStart=>exact⟨0,_,by omega,rfl,World.ownsRow_nil w4 _ _ 192,hsc,by rw[hst0.out.1];exact hal,L4,hid (by rw[HE.out,hpsl];rfl)⟩
    case round=>
     clear hsc hal L4
     obtain⟨k,vs,hk,rfl,hrow,hsc,hal,L,HG⟩:=hrel
     by_cases hlt:k<m
     ·obtain⟨b,o,Ak,nk,ck,rfl,hb,hck,hcap,hrd,_⟩:=(hp.later L).at_ hlt
      have hlen:=hrd.len
      obtain rfl:nk=32:=by rw[←hlen];exact HA.out _ (QfA ps k (by omega))
      have hscl:(stA x ps k).2.length=k+1:=Qgv x ps k
      have hall:=QeJ x ps k
      have cC:Hid (∀ (w:World) B d,RdB w Ak 32 (ps.getD k [])→Parts w (fun _=>False) B (k+1) (stA x ps k).2→
       Calls Tryz.prog 79 #[.slice Ak 32 ck,.slice B (k+1) d] w fun e w'=>e= .returned (.tuple #[.agg ((secA x ps k).map W8).toArray,.int .i64 (errA x ps k:Nat)])∧Later w w'):=
       hid (fun w B d h1 h2=>QtK Ak B 32 ck (k+1) d (ps.getD k []) (stA x ps k).2 w h1 h2 (by omega) (by omega))
      have hsl:=Qi0 x ps k
      have hTl:=Qdv x ps k
      have F1:=hid (show Qc7 x ps k=k4 (secA x ps k)++((stA x ps k).1++secA x ps k) from rfl)
      have F2:=hid (show (stA x ps (k+1)).1=QbH (derB (secA x ps k) QbX) (stA x ps k).1 from rfl)
      have F3:=hid (show (stA x ps (k+1)).2=(stA x ps k).2++[derB (secA x ps k) QbX] from rfl)
      have F4:=QiM x ps k
      have F5:=Qfi x ps k
      have F6:=Qwh (secA x ps k)
      have F7:=hid (Qov x ps k)
      have F8:=hid (show errA x ps k=0→E0=goE x ps (m-(k+1)) (k+1) by
       intro h
       have:=HG.out
       rw[show m-k=(m-(k+1))+1 by omega,goE,if_pos h]at this
       exact this)
      have F9:=hid (show errA x ps k≠0→E0=errA x ps k by
       intro h
       have:=HG.out
       rw[show m-k=(m-(k+1))+1 by omega,goE,if_neg h]at this
       exact this)
      have hbl:=Qaz (secA x ps k) QbX
      obtain⟨B1,d1,hu,hd1⟩:=Qk2 hsc.own
      rw[hscl]at hu hd1
      subst hu
      clear HG hlen
      generalize Qc7 x ps k=T at *
      generalize derB (secA x ps k) QbX=bl at *
      generalize hS:secA x ps k=S at *
      generalize errA x ps k=e1 at *
      generalize (stA x ps k).1=al at *
      generalize (stA x ps k).2=sc at *
      generalize ps.getD k []=p at *
      by_cases he:e1=0
      ·subst he
       have G1:=F8.out rfl
       have hOf:=hid (fun (w:World) g h=>Qwz (some ⟨g,0,none⟩) 32 32 S w h (by omega))
       rw[show ofB S=k4 S by rw[ofB,if_pos hsl],show ofE S=0 by rw[ofE,if_pos hsl]]at hOf
       have hKl:=QgT S
       have hbs:=Qol (k4 S) al S hKl hall hsl
       rw[←F1.out]at hbs
       have hNx:=hid (fun w=>QxI T bl al hTl F4 F5 w)
       have hNl:=Qa9 bl al
       rw[←F2.out]at hNx hNl
       clear F1 F2 F8 F9 hS
       generalize k4 S=K at *
       generalize Qbu bl al=e2 at *
       generalize ha2:(stA x ps (k+1)).1=al2 at *
       have HA2:=hid ha2
       clear ha2
       have hzR:=zcRl
       have hzK:=zcKl
       have H6:=hid F6
       have HG1:=hid G1
       clear F4 F5 F6 G1
       have hgr:∀b,u10.ownBlock=some b→b<wr.heap.size:=QoQ hrow
       go_wp2_with fail
       (with_reducible refine (cC.out _ B1 d1 hrd (hsc.parts hscl L)).mono ?_);rintro e w5 ⟨rfl,j5⟩
       go_wp2_with (first
        | (refine QaW rfl rfl _ _ rfl (Blk.new w5 _ (QFu 32 (.int .u8 0))) rfl rfl hsl rfl ?_;intro w6 hb6 ho6
           have J6:=(j5.trans (Qaa w5 (.cells (QFu 32 (Value.int .u8 0)).toArray 45))).only ho6 j5.size)
        | fail)
       (with_reducible refine (hOf.out _ _ (Qec hb6 hsl)).mono ?_);rintro e w7 ⟨rfl,j7⟩
       go_wp2_with (first
        | (refine QgN rfl rfl _ _ rfl (Blk.new w7 _ Tryz.zeroCells154.toList) rfl rfl hKl hzK ?_;intro w8 hb8 ho8
           have J8:=(J6.trans j7).trans ((Qaa w7 (.cells Tryz.zeroCells154 154)).only ho8 (QFE _))
           have hal8:=hal.later J8
           have hs8:=(hb6.later j7).later ((Qaa w7 (.cells Tryz.zeroCells154 154)).only ho8 (QFE _)))
        | (refine QuB rfl _ rfl hb8 hKl rfl ?_)
        | (refine Qfp rfl _ rfl hal8 hall rfl ?_)
        | (refine Qfp rfl _ rfl hs8 hsl rfl ?_)
        | (refine Qao rfl 156 _ rfl (T.map W8) ?hb ?_;(case hb=>simp only[QFI,QFW,QFR];exact hbs))
        | (refine Qwd rfl rfl _ _ rfl (Blk.new w8 _ Tryz.zeroCells156.toList) rfl rfl hTl hzR ?_;intro w9 hb9 ho9
           have J89:Later w8 w9:=(Qaa w8 (.cells Tryz.zeroCells156 156)).only ho9 (QFE _)
           have J9:=(J8.trans J89).trans (Qaa w9 (.cells (T.map W8).toArray 156)))
        | (refine QsC rfl _ rfl hb9 hTl rfl ?_)
        | (refine Qtm rfl 147 _ rfl 156 192 _ T Tryz.underlying147 Qzx (by omega) (by omega) hTl rfl ?_)
        | (refine QfY rfl _ _ _ rfl 156 _ 192 192 Tryz.underlying147 QCG rfl (by omega) w _ k _ (Qgi hrow J9) (L.trans J9) w9.heap.size 1 1 156 (T.map W8) (Blk.new _ _ _) (by rw[QFA,hTl]) (Qay T) rfl rfl (by omega) (by omega) ?_;intro v10 w10 hown10 hl10 hg10
           have hrow9:=Qgi hrow J9
           have hsc10:=(hsc.later J9).grown hrow9 neLR QzW ne8R hg10
           have hal10:=QcO (hal.later J9) hrow9 QzW hg10
           have hK10:=QcO ((hb8.later J89).later (Qaa w9 (.cells (T.map W8).toArray 156))) hrow9 neKR hg10
           have hT10:Blk w10 w8.heap.size 156 (T.map W8):=by
            have h9:=hb9.later (Qaa w9 (.cells (T.map W8).toArray 156))
            refine (hg10.block _ h9.lt ?_).trans h9
            intro e
            exact absurd (hgr _ e.symm) (Nat.not_lt.2 J8.size))
        | fail)
       rw[←F7.out]at hown10
       clear hrow hsc hal hb6 ho6 hb8 ho8 hb9 ho9 J6 J8 J89 J9 hal8 hs8 hg10 hrow9 hgr j5 j7 L cC hOf
       (with_reducible refine (QbD _ 32 32 bl _ (Qc3 hK10 H6.out hbl) (by omega)).mono ?_);rintro e w11 ⟨A11,c11,rfl,o11,j11⟩
       have a11:=Qaa w11 (.cells #[.slice A11 32 c11] 25)
       have J11:=j11.trans a11
       have hsc11:=hsc10.later J11
       have hrow11:=Qgi hown10 J11
       have hal11:=hal10.later J11
       have hT11:=hT10.later J11
       have o12:=Qaq o11 a11
       have L11:=hl10.trans J11
       have hsco:=hsc11.own
       rw[hscl]at hsco
       clear hsc10 hown10 hal10 hT10 hK10 o11 j11 hl10
       go_wp2_with (first
        | (refine QfY rfl _ _ _ rfl 25 _ 1 24 Tryz.underlying79 QzI rfl (by omega) w _ (k+1) vs hsco L11 w11.heap.size 1 1 25 [.slice A11 32 c11] (Blk.new _ _ _) rfl (by intro u hu;rw[QGL.1 hu];rfl) rfl rfl (by omega) (by omega) ?_;intro v13 w13 hown13 hl13 hg13
           have hT13:=QcO hT11 hsco neRL hg13)
        | (refine QsC rfl _ rfl hT13 hTl rfl ?_)
        | fail)
       have hsc13:=hsc11.snoc (p:=bl) (.inr (.inr ⟨A11,c11,_,rfl,o12⟩)) hg13 (by rw[hscl];exact hown13)
       rw[←F3.out]at hsc13
       have hrow13:=QeO hrow11 hsco neRL hg13
       have hal13:=QcO hal11 hsco QwO hg13
       clear hsc11 hrow11 hal11 hT11 o12 L11 hsco hown13 hg13 J11 a11
       (with_reducible refine (hNx.out _).mono ?_);rintro e w14 ⟨rfl,j14⟩
       go_wp2_with (first
        | (refine QaW rfl rfl _ _ rfl (hal13.later j14) rfl rfl hNl (by rw[QFA,hall]) ?_;intro w15 hb15 ho15)
        | fail)
       refine⟨⟨k+1,_,by omega,by go_num,QaV (Qgi hrow13 j14) (hal13.later j14) QzW ho15,(hsc13.later j14).only (hal13.later j14) ho15,by rw[HA2.out];exact hb15,(hl13.trans j14).only ho15 hg8,HG1⟩,by simp only[intOf];omega⟩
      ·have hE0:=F9.out he
       have hne:((e1:Int) != 0)=true:=by simp;omega
       go_wp2_with fail
       (with_reducible refine (cC.out _ B1 d1 hrd (hsc.parts hscl L)).mono ?_);rintro e w5 ⟨rfl,j5⟩
       go_wp2_with (first
        | (refine QaW rfl rfl _ _ rfl (Blk.new w5 _ (QFu 32 (.int .u8 0))) rfl rfl hsl rfl ?_;intro w6 hb6 ho6)
        | fail)
       go_ret2
       exact⟨(L.trans (j5.trans (Qaa w5 _))).only ho6 (L.trans j5).size,.inl ⟨by rw[hE0];exact he,by rw[hE0];rfl⟩⟩
     ·have hkm:k=m:=by omega
      subst hkm
      have hE0:E0=0:=by rw[HG.out,Nat.sub_self];rfl
      obtain⟨A9,c9,rfl,hc9⟩:=Qk2 hrow
      have hrd9:=QzC hrow (Qlh x ps k) (QkO x ps k)
      go_wp2_with fail
      go_ret2
      exact⟨L,.inr ⟨hE0,A9,c9,rfl,hc9,hrd9⟩⟩
 ·have hE:=Qkg (x:=x) (ps:=ps) (fun f=>hok ⟨by have:=f.1;omega,by have:=f.2.1;omega,by have:=f.2.2.1;omega⟩)
  rw[hE]
  clear hE
  have key:((n:Int) != 32)=true∨(((n:Int) != 32)=false∧((m:Int)==0)=true)∨(((n:Int) != 32)=false∧((m:Int)==0)=false∧decide ((5:Int)<(m:Int))=true):=by
   simp only[bne_iff_ne,bne_eq_false_iff_eq,ne_eq,decide_eq_true_eq,beq_iff_eq,beq_eq_false_iff_ne]
   omega
  rcases key with h1|⟨h1,h2⟩|⟨h1,h2,h3⟩
  all_goals
   go_enter Tryz.func52,Tryz.ntmps52
   go_wp2_with fail
   go_ret2
   exact⟨Later.refl w,.inl ⟨by decide,rfl⟩⟩
end Go.Proofs.YtcbdgnlcknllnaaGreat
