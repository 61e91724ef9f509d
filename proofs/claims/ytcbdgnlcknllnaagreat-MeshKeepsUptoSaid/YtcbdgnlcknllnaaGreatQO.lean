/-
  Lemmas for the last text of this claim (part 15 of 20).
-/
import Derived.ArgAppend
import Derived.BigQuiet
import Derived.BigRegion
import Derived.ChangeOld
import Derived.Deep.RegionWith
import Derived.DeepKeys4
import Derived.JoinedCond
import Derived.LaidMore
import Derived.Laws.CopyOwn
import Derived.Laws.Externs
import Derived.Laws.IdiomStrings
import Derived.Laws.Tables
import Derived.Lib.AppendStr
import Derived.Lib.AppendZerosOnto
import Derived.Lib.Mul64
import Derived.Lib.SlBytesConst
import Derived.LoopN
import Derived.Maps.OwnSet
import Derived.OpenShut
import Derived.OrdersHeld
import Derived.ProofKit
import Derived.Shelf.Spec.BitsCarry
import Derived.ShutString
import Derived.Test.YtcbdgnlcknllnaaGreatProg
import Derived.Test.YtcbdgnlcknllnaaGreatRows
import Derived.WalkKit
import Derived.WalkLawsBesides
import Derived.WalkSpells
import Derived.Test.YtcbdgnlcknllnaaGreatQF
import Derived.Test.YtcbdgnlcknllnaaGreatQI
import Derived.Test.YtcbdgnlcknllnaaGreatQJ
import Derived.Test.YtcbdgnlcknllnaaGreatQK
import Derived.Test.YtcbdgnlcknllnaaGreatQL
import Derived.Test.YtcbdgnlcknllnaaGreatQN
open Bool renaming and_eq_true → QyH, eq_iff_iff → Qy7
open List renaming replicate → Qyl, getElem?_cons_succ → Qym, getElem?_cons_zero → Qyn, length_map → Qyo, getElem?_eq_getElem → Qyq, nil_append → Qyr, cons_append → Qys, getD_eq_getElem?_getD → Qyt, setIfInBounds_toArray → Qyu, map_toArray → Qyw, set_cons_zero → Qyx, set_cons_succ → Qyy, length_append → Qyz, take_of_length_le → QyA, map_nil → QyD, getElem?_map → QyF, mem_cons → QyI, map_cons → QyJ, append_assoc → QyK, not_mem_nil → QyN, length_replicate → QyO, length_drop → QyQ, append_nil → QyT, length_take → QyW, length_set → QyY, map_replicate → Qy5, take_append_drop → Qy9, drop_left' → Qzh, map_take → Qzp, drop_eq_nil_of_le → QzV, drop_drop → QAc, drop_append → QAi, take_left' → QAo
open Nat renaming le_refl → Qyv, zero_add → QyE, add_zero → Qz3
open Option renaming toList_some → Qyp
open UInt64 renaming ofNat → QyM
set_option linter.all false
namespace Go.Proofs.YtcbdgnlcknllnaaGreat
open Go.RowKit
open Go.BigFrame
abbrev sMac:ByteArray:=⟨#[109,97,99]⟩
abbrev Qer:ByteArray:=⟨#[115,116,114,101,97,109]⟩
abbrev sPay:ByteArray:=⟨#[112,97,121]⟩
abbrev Qgr:ByteArray:=⟨#[98,108,105,110,100]⟩
def k4 (s:List UInt8):List UInt8:=derB s sMac++(derB s Qer++(derB s sPay++derB s Qgr))
theorem Qjy (s:List UInt8):(k4 s).length=128:=by simp[k4,QaW]
theorem Qts (s:List UInt8):Qco s [sMac,Qer,sPay,Qgr] 4=k4 s:=by
 rw[Qco,k4]
 simp
def ofB (s:List UInt8):List UInt8:=if s.length=32 then k4 s else Qyl 128 0
def ofE (s:List UInt8):Nat:=if s.length=32 then 0 else 2
theorem QiD:(Tryz.prog.info? 154).map (·.size)=some 128:=by kernel_rfl
theorem QsX:(Tryz.prog.info? 154).bind (·.zero)=some (.agg (Qyl 128 (W8 0)).toArray):=by kernel_rfl
theorem Qm4 (p q r s:List UInt8) (hp:p.length=32) (hq:q.length=32) (hr:r.length=32) (hs:s.length=32):
 Program.built Tryz.prog 154 [(0,.agg (p.map W8).toArray),(1,.agg (q.map W8).toArray),(2,.agg (r.map W8).toArray),(3,.agg (s.map W8).toArray)]=some ((p++(q++(r++s))).map W8).toArray:=by
 have h:=Qet (n:=128) (pl:=[(0,32),(32,32),(64,32),(96,32)]) Tryz.underlying154 QsX (by kernel_rfl) [(0,0,p),(1,32,q),(2,64,r),(3,96,s)] (by
  intro x hx
  simp only[QyI,QyN,or_false]at hx
  rcases hx with rfl|rfl|rfl|rfl<;>simp[hp,hq,hr,hs])
 rw[show Qen (Qyl 128 0) ([(0,0,p),(1,32,q),(2,64,r),(3,96,s)].map fun x=>(x.2.1,x.2.2))=p++(q++(r++s)) by
  simp only[QyJ,QyD,Qen]
  rw[show Qyl 128 (0:UInt8)=Qyl 32 0++(Qyl 32 0++(Qyl 32 0++Qyl 32 0)) by simp]
  rw[Qdb _ _ _ (by simp[hp]),Qdi _ _ _ _ 32 hp (by simp[hq])]
  rw[←QyK p q,Qdi _ _ _ _ 64 (by simp[hp,hq]) (by simp[hr]),←QyK _ r,QdY _ _ _ 96 (by simp[hp,hq,hr]) (by simp[hs])]
  simp]at h
 exact h
theorem Qk8:Program.built Tryz.prog 154 []=some ((Qyl 128 (0:UInt8)).map W8).toArray:=by
 rw[Qy5]
 kernel_rfl
section
variable {ops:Array Oper} {rest:List Oper} {o:Oper} {a:Act} {w:World} {Q:Exit→Act→World→Prop}
theorem QkL (hgd:o.guard=none) (hd:o.dst=none) (x y:Operand) (ho:o.op= .store 154 x y) {g:Nat} {t:TypeId} {l:List Value} {bs:List UInt8} (hg:Blk w g t l) (hx:a.eval x= .pointer (some ⟨g,0,none⟩)) (hy:a.eval y= .agg (bs.map W8).toArray) (hbl:bs.length=128) (hl:l.length=128)
 (h:∀w',Blk w' g t (bs.map W8)→Only g w w'→wpList Tryz.prog ops Q rest a w'):wpList Tryz.prog ops Q (o :: rest) a w:=
 QgY 128 hgd hd x y ho hg hx hy QiD hbl hl h
theorem Qvm (hw:Region.wanted o (yielded ops a.tmps)=true) (x:Operand) (ho:o.op= .load 154 x) {g:Nat} {t:TypeId} {bs:List UInt8} (hb:Blk w g t (bs.map W8)) (hl:bs.length=128) (hx:a.eval x= .pointer (some ⟨g,0,none⟩))
 (h:wpList Tryz.prog ops Q rest (a.put o.dst (.agg (bs.map W8).toArray)) w):wpList Tryz.prog ops Q (o :: rest) a w:=
 Qby hw _ x ho g t _ hb hx _ Tryz.underlying154 rfl 128 QiD (by rw[Qyo,hl]) h
end
set_option maxRecDepth 100000 in
set_option maxHeartbeats 4000000 in
theorem Qs3 (A:Option Addr) (n c:Nat) (s:List UInt8) (w:World) (hx:RdB w A n s) (hc:n≤c) (hn:n≤35184372088832):
 Calls Tryz.prog 116 #[.slice A n c] w fun e w'=>e= .returned (.tuple #[.agg ((ofB s).map W8).toArray,.int .i64 (ofE s:Nat)])∧Later w w':=by
 have hl:=hx.len
 have B0:=Qbh w 154 Tryz.zeroCells154.toList
 have hz0:Tryz.zeroCells154.toList.length=128:=by kernel_rfl
 by_cases h32:n=32
 ·subst h32
  have e1:ofE s=0:=by rw[ofE,if_pos hl]
  have e2:ofB s=k4 s:=by rw[ofB,if_pos hl]
  rw[e1,e2]
  clear e1 e2
  have hD:=hid (fun (w:World) B d h1 h2=>Qhp A B 32 c 4 d s [sMac,Qer,sPay,Qgr] w h1 hc hn h2 (by omega) (by omega) (by intro x hx;simp only[QyI,QyN,or_false]at hx;rcases hx with rfl|rfl|rfl|rfl<;>decide))
  rw[Qts]at hD
  rw[k4]at *
  have hp:=QaW s sMac
  have hq:=QaW s Qer
  have hr:=QaW s sPay
  have ht:=QaW s Qgr
  generalize derB s sMac=p at *
  generalize derB s Qer=q at *
  generalize derB s sPay=r at *
  generalize derB s Qgr=t at *
  have hbk:=Qm4 p q r t hp hq hr ht
  obtain⟨K,hK⟩:∃K,K=p++(q++(r++t)):=⟨_,rfl⟩
  rw[←hK]at hD hbk ⊢
  have s0:subB K 0 32=p:=by rw[hK,Qmp _ _ _ hp]
  have s1:subB K 32 32=q:=by rw[hK,QeJ _ _ _ _ _ hp hq]
  have s2:subB K 64 32=r:=by rw[hK,←QyK,QeJ _ _ _ _ _ (by simp[hp,hq]) hr]
  have s3:subB K 96 32=t:=by rw[hK,←QyK,←QyK,QpL _ _ _ _ (by simp[hp,hq,hr]) ht]
  have hKl:K.length=128:=by rw[hK];simp[hp,hq,hr,ht]
  clear hK
  go_enter Tryz.func116,Tryz.ntmps116
  go_wp2_with fail
  generalize hW:(w.alloc _).alloc _=w1
  have B1:Bag w w1 [(w.heap.size,154,Tryz.zeroCells154.toList)]:=by rw[←hW];exact B0.later (Qaa _ _)
  have hS:Strs w1 (some ⟨w.heap.size+1,0,none⟩) 4 [sMac,Qer,sPay,Qgr]:=by
   rw[←hW]
   exact Blk.rd (Blk.new' (w.alloc (.cells Tryz.zeroCells154 154)) 9 [Value.string sMac,Value.string Qer,Value.string sPay,Value.string Qgr] (by simp)) rfl
  clear hW
  (with_reducible refine (hD.out _ _ 4 (hx.later B1.lat) hS).mono ?_);rintro e w2 ⟨g,rfl,hg,hb2,j2⟩
  have B2:=(B1.later j2).add (Qab _) (k:=g) (by have:=(B1.nth 0 rfl).lt;simp;omega) (by have:=B1.lat.size;omega) hb2.drew
  clear hS hb2 hg B0 j2 B1
  go_wp2_with fail
  refine Qad [] [0,1,2,3,4,5,6,7,8,9,10,11,12] [13,14] (by as_aux_lemma=>kernel_rfl) (by as_aux_lemma=>kernel_rfl) (by intro _ _ d _ _ h;cases d<;>exact h) ?_
  simp only[Qaj,pick,Qym,Qyn,Qyp,Qys,Qyr]
  repeat (first|go_big_quiet_skip|(go_big_quiet_want;(first|refine Qid 0 32 _ rfl (B2.nth 0 rfl) rfl Tryz.underlying45 rfl QeB s0 hp ?_|refine Qid 32 32 _ rfl (B2.nth 0 rfl) rfl Tryz.underlying45 rfl QeB s1 hq ?_|refine Qid 64 32 _ rfl (B2.nth 0 rfl) rfl Tryz.underlying45 rfl QeB s2 hr ?_|refine Qid 96 32 _ rfl (B2.nth 0 rfl) rfl Tryz.underlying45 rfl QeB s3 ht ?_|refine Qdr _ _ rfl (K.map W8) (by simp only[Qyw,QyJ,QyD];exact hbk) ?_);simp only[Act.put,Qyu,Qyy,Qyx];go_big_quiet_on)|(go_big_quiet_step (fail)))
  refine wpQuiet_nil ?_
  go_wp2_with (first
   | (refine QkL rfl rfl _ _ rfl (B2.nth 1 rfl) rfl rfl hKl hz0 ?_;intro w9 hb9 ho9)
   | fail)
  exact bodyPost_ret (Qaf rfl _ _ _ _ _ _ hb9 rfl Tryz.underlying154 rfl (by rw[Qyo,hKl];exact QiD)) rfl ⟨rfl,(B2.write 1 rfl ho9 hb9).lat⟩
 ·have e1:ofE s=2:=by rw[ofE,if_neg (by omega)]
  have e2:ofB s=Qyl 128 0:=by rw[ofB,if_neg (by omega)]
  rw[e1,e2]
  clear e1 e2
  have hb0:=Qk8
  have hzl:(Qyl 128 (0:UInt8)).length=128:=by simp
  generalize Qyl 128 (0:UInt8)=Z at *
  have hne:((n:Int) != 32)=true:=by simp;omega
  go_enter Tryz.func116,Tryz.ntmps116
  go_wp2_with (first
   | (refine Qar rfl 154 _ rfl (Z.map W8) ?hb ?_;(case hb=>simp only[Qyw,QyD];exact hb0))
   | (refine QkL rfl rfl _ _ rfl (B0.nth 0 rfl) rfl rfl hzl hz0 ?_;intro w9 hb9 ho9)
   | fail)
  exact bodyPost_ret (Qaf rfl _ _ _ _ _ _ hb9 rfl Tryz.underlying154 rfl (by rw[Qyo,hzl];exact QiD)) rfl ⟨rfl,(Qaa _ _).only ho9 (Qyv _)⟩
theorem QhB (x y:List UInt8) (off n:Nat):(subB x off n==subB y off n&&x.drop (off+n)==y.drop (off+n))=(x.drop off==y.drop off):=by
 rw[Qy7]
 simp only[QyH,beq_iff_eq,subB,←QAc]
 constructor
 ·rintro⟨h1,h2⟩
  rw[←Qy9 n (x.drop off),h1,h2,Qy9]
 ·intro h
  rw[h]
  exact⟨rfl,rfl⟩
theorem Qkw (x y:List UInt8) (off n:Nat) (hx:x.length=off+n) (hy:y.length=off+n):(subB x off n==subB y off n)=(x.drop off==y.drop off):=by
 rw[subB,subB,QyA (by rw[QyQ];omega),QyA (by rw[QyQ];omega)]
theorem Qa4 (x:List UInt8) (off n:Nat):(((x.map W8).drop off).take n)=(subB x off n).map W8:=by rw[subB,Qzp,List.map_drop]
abbrev Y128:={l:List UInt8 // l.length=128}
theorem Qi3 {P:Program} {t:TypeId} {fs:Array Field} (hu:P.underlying t=some (.struct fs)):P.fieldsOf t=fs:=by unfold Program.fieldsOf;rw[hu]
theorem Qtq (d:Nat) (x y:List UInt8) (hx:x.length=128) (hy:y.length=128) (w:World):
 (Op.eqFields (d+2) (x.map W8).toArray (y.map W8).toArray (Tryz.prog.fieldsOf 154).toList).run Tryz.prog w= .ok (x==y) w:=by
 rw[Qi3 Tryz.underlying154]
 have l1:∀off,off+32≤128→(subB x off 32).length=32:=fun off h=>Qas (by omega)
 have l2:∀off,off+32≤128→(subB y off 32).length=32:=fun off h=>Qas (by omega)
 rw[Qbn (k:=0) rfl (by decide) rfl (Qa4 x 0 32) (Qa4 y 0 32) (l1 _ (by omega)) (l2 _ (by omega)),Qbn (k:=32) rfl (by decide) rfl (Qa4 x 32 32) (Qa4 y 32 32) (l1 _ (by omega)) (l2 _ (by omega)),
  Qbn (k:=64) rfl (by decide) rfl (Qa4 x 64 32) (Qa4 y 64 32) (l1 _ (by omega)) (l2 _ (by omega)),Qbn (k:=96) rfl (by decide) rfl (Qa4 x 96 32) (Qa4 y 96 32) (l1 _ (by omega)) (l2 _ (by omega)),Qch]
 have h:(x==y)=(subB x 0 32==subB y 0 32&&(subB x 32 32==subB y 32 32&&(subB x 64 32==subB y 64 32&&subB x 96 32==subB y 96 32))):=by
  rw[Qkw x y 96 32 (by omega) (by omega),QhB x y 64 32,QhB x y 32 32,QhB x y 0 32]
  rfl
 rw[h]
 cases subB x 0 32==subB y 0 32<;>cases subB x 32 32==subB y 32 32<;>cases subB x 64 32==subB y 64 32<;>cases subB x 96 32==subB y 96 32<;>rfl
theorem Qrz:Tryz.prog.eqGuardType Tryz.prog.depth 154=false:=by kernel_rfl
theorem Qmx:Tryz.prog.stoodInHeld 154=false:=by kernel_rfl
theorem QkS:Tryz.prog.underlying 154=some (.struct (Tryz.prog.fieldsOf 154)):=by rw[Qi3 Tryz.underlying154];exact Tryz.underlying154
@[go_sem high] theorem Qsm (op:BinOp) (x y:Operand) (xs ys:Array Value) (w:World):(eqGuard op 154 x y (.agg xs) (.agg ys)).run Tryz.prog w= .ok () w:=run_eqGuard_agg w op _ x y xs ys Qrz
@[go_sem high] theorem Qsc (x y:Y128) (w:World):(binOp .eql 154 (.agg (x.val.map W8).toArray) (.agg (y.val.map W8).toArray)).run Tryz.prog w= .ok (.bool (x.val==y.val)) w:=by
  rw[QeQ QkS Qmx,Qtq 9997 _ _ x.2 y.2]
  rfl
theorem QgH:(Tryz.prog.info? 161).map (·.size)=some 192:=by kernel_rfl
theorem QtW:(Tryz.prog.info? 161).bind (·.zero)=some (.agg (Qyl 192 (W8 0)).toArray):=by kernel_rfl
theorem put3 (k a s:List UInt8) (hk:k.length=128) (ha:a.length=32) (hs:s.length=32):Qen (Qyl 192 0) [(0,k),(128,a),(160,s)]=k++(a++s):=by
 simp only[Qen]
 rw[show Qyl 192 (0:UInt8)=Qyl 128 0++(Qyl 32 0++Qyl 32 0) by simp]
 rw[Qdb _ _ _ (by simp[hk]),Qdi _ _ _ _ 128 hk (by simp[ha]),←QyK,QdY _ _ _ 160 (by simp[hk,ha]) (by simp[hs]),QyK]
theorem Qmo (k a s:List UInt8) (hk:k.length=128) (ha:a.length=32) (hs:s.length=32):
 Program.built Tryz.prog 161 [(0,.agg (k.map W8).toArray),(1,.agg (a.map W8).toArray),(2,.agg (s.map W8).toArray)]=some ((k++(a++s)).map W8).toArray:=by
 have h:=Qet (n:=192) (pl:=[(0,128),(128,32),(160,32)]) Tryz.underlying161 QtW (by kernel_rfl) [(0,0,k),(1,128,a),(2,160,s)] (by
  intro x hx
  simp only[QyI,QyN,or_false]at hx
  rcases hx with rfl|rfl|rfl<;>simp[hk,ha,hs])
 rw[show Qen (Qyl 192 0) ([(0,0,k),(1,128,a),(2,160,s)].map fun x=>(x.2.1,x.2.2))=k++(a++s) from put3 k a s hk ha hs]at h
 exact h
theorem Qj8:Program.built Tryz.prog 161 []=some ((Qyl 192 (0:UInt8)).map W8).toArray:=by
 rw[Qy5]
 kernel_rfl
section
variable {ops:Array Oper} {rest:List Oper} {o:Oper} {a:Act} {w:World} {Q:Exit→Act→World→Prop}
theorem QeL (hgd:o.guard=none) (hd:o.dst=none) (x y:Operand) (ho:o.op= .store 161 x y) {g:Nat} {t:TypeId} {l:List Value} {bs:List UInt8} (hg:Blk w g t l) (hx:a.eval x= .pointer (some ⟨g,0,none⟩)) (hy:a.eval y= .agg (bs.map W8).toArray) (hbl:bs.length=192) (hl:l.length=192)
 (h:∀w',Blk w' g t (bs.map W8)→Only g w w'→wpList Tryz.prog ops Q rest a w'):wpList Tryz.prog ops Q (o :: rest) a w:=
 QgY 192 hgd hd x y ho hg hx hy QgH hbl hl h
theorem Qiy (hw:Region.wanted o (yielded ops a.tmps)=true) (x:Operand) (ho:o.op= .load 161 x) {g:Nat} {t:TypeId} {bs:List UInt8} (hb:Blk w g t (bs.map W8)) (hl:bs.length=192) (hx:a.eval x= .pointer (some ⟨g,0,none⟩))
 (h:wpList Tryz.prog ops Q rest (a.put o.dst (.agg (bs.map W8).toArray)) w):wpList Tryz.prog ops Q (o :: rest) a w:=
 Qby hw _ x ho g t _ hb hx _ Tryz.underlying161 rfl 192 QgH (by rw[Qyo,hl]) h
end
set_option maxRecDepth 100000 in
set_option maxHeartbeats 4000000 in
theorem Qmi (al s:List UInt8) (hal:al.length=32) (hs:s.length=32) (w:World):
 Calls Tryz.prog 88 #[.agg (al.map W8).toArray,.agg (s.map W8).toArray] w fun e w'=>e= .returned (.tuple #[.agg ((k4 s++(al++s)).map W8).toArray,.int .i64 0])∧Later w w':=by
 have hO:=hid (fun (w:World) g h=>Qs3 (some ⟨g,0,none⟩) 32 32 s w h (by omega) (by omega))
 rw[show ofB s=k4 s by rw[ofB,if_pos hs],show ofE s=0 by rw[ofE,if_pos hs]]at hO
 have hkl:=Qjy s
 generalize k4 s=K at *
 have hbs:=Qmo K al s hkl hal hs
 have hTl:(K++(al++s)).length=192:=by simp[hkl,hal,hs]
 generalize K++(al++s)=T at *
 have hz1:Tryz.zeroCells154.toList.length=128:=by kernel_rfl
 have hz0:Tryz.zeroCells161.toList.length=192:=by kernel_rfl
 have C1:=Qbh w 45 (al.map W8)
 have C2:Bag w ((w.alloc (.cells (al.map W8).toArray 45)).alloc (.cells (s.map W8).toArray 45)) [(w.heap.size+1,45,s.map W8),(w.heap.size,45,al.map W8)]:=
  C1.add (Qaa _ _) (by simp) (by omega) (Blk.new' _ _ _ (by simp))
 have C3:Bag w (((w.alloc (.cells (al.map W8).toArray 45)).alloc (.cells (s.map W8).toArray 45)).alloc (.cells Tryz.zeroCells161 161)) [(w.heap.size+2,161,Tryz.zeroCells161.toList),(w.heap.size+1,45,s.map W8),(w.heap.size,45,al.map W8)]:=
  C2.add (Qaa _ _) (by simp) (by omega) (Blk.new' _ _ _ (by simp))
 clear C1 C2
 go_enter Tryz.func88,Tryz.ntmps88
 go_wp2_with fail
 generalize hW:((w.alloc _).alloc _).alloc _=w0
 replace C3:Bag w w0 [(w.heap.size+2,161,Tryz.zeroCells161.toList),(w.heap.size+1,45,s.map W8),(w.heap.size,45,al.map W8)]:=by rw[←hW];exact C3
 clear hW
 (with_reducible refine (hO.out _ _ (QgB (C3.nth 1 rfl) hs)).mono ?_);rintro e w1 ⟨rfl,j1⟩
 go_wp2_with (first
  | (refine QkL rfl rfl _ _ rfl (Blk.new w1 _ Tryz.zeroCells154.toList) rfl rfl hkl hz1 ?_;intro w2 hb2 ho2
     have C4:=C3.push (j1.trans (Qaa w1 _)) j1.size ho2 hb2)
  | (refine Qvm rfl _ rfl (C4.nth 0 rfl) hkl rfl ?_)
  | (refine Qgj rfl _ rfl (C4.nth 3 rfl) hal rfl ?_)
  | (refine Qgj rfl _ rfl (C4.nth 2 rfl) hs rfl ?_)
  | (refine Qar rfl 161 _ rfl (T.map W8) ?hb ?_;(case hb=>simp only[Qyw,QyJ,QyD];exact hbs))
  | (refine QeL rfl rfl _ _ rfl (C4.nth 1 rfl) rfl rfl hTl hz0 ?_;intro w9 hb9 ho9)
  | fail)
 exact bodyPost_ret (Qaf rfl _ _ _ _ _ _ hb9 rfl Tryz.underlying161 rfl (by rw[Qyo,hTl];exact QgH)) rfl ⟨rfl,(C4.write 1 rfl ho9 hb9).lat⟩
set_option maxRecDepth 100000 in
set_option maxHeartbeats 4000000 in
theorem Qqs (x b al:List UInt8) (hx:x.length=192) (hb:subB x 96 32=b) (hal:subB x 128 32=al) (w:World):
 Calls Tryz.prog 120 #[.agg (x.map W8).toArray] w fun e w'=>e= .returned (.tuple #[.agg ((QdO b al).map W8).toArray,.int .i64 (QbO b al:Nat)])∧Later w w':=by
 have hbl:b.length=32:=by rw[←hb];exact Qas (by omega)
 have hall:al.length=32:=by rw[←hal];exact Qas (by omega)
 have hM:=hid (fun (w:World) g h1 h2=>QlC (some ⟨g,96,none⟩) (some ⟨g,128,none⟩) 32 32 32 32 b al w h1 h2 (by omega) (by omega))
 have hml:=Qbw b al
 generalize QdO b al=M at *
 generalize QbO b al=e9 at *
 have C1:=Qbh w 161 (x.map W8)
 have C2:Bag w ((w.alloc (.cells (x.map W8).toArray 161)).alloc (.cells (Qyl 32 (Value.int .u8 0)).toArray 45)) [(w.heap.size+1,45,Qyl 32 (Value.int .u8 0)),(w.heap.size,161,x.map W8)]:=
  C1.add (Qaa _ _) (by simp) (by omega) (Blk.new' _ _ _ (by simp))
 clear C1
 go_enter Tryz.func120,Tryz.ntmps120
 go_wp2_with fail
 generalize hW:(w.alloc _).alloc _=w0
 replace C2:Bag w w0 [(w.heap.size+1,45,Qyl 32 (Value.int .u8 0)),(w.heap.size,161,x.map W8)]:=by rw[←hW];exact C2
 clear hW
 refine Qad [([0,1,2,3,4],5)] [6,7] [8,9] (by as_aux_lemma=>kernel_rfl) (by as_aux_lemma=>kernel_rfl) (by intro _ _ d _ _ h;cases d<;>exact h) ?_
 simp only[Qaj,pick,Qym,Qyn,Qyp,Qys,Qyr]
 repeat (go_big_quiet_step (fail))
 refine wpQuiet_nil ?_
 go_wp2_with fail
 (with_reducible refine (hM.out _ _ (QcD (C2.drew.nth 1 rfl) hb hbl) (QcD (C2.drew.nth 1 rfl) hal hall)).mono ?_);rintro e w2 ⟨rfl,j2⟩
 go_wp2_with fail
 try refine⟨by first|assumption|exact Qab _|exact Qaa _ _|exact Later.refl _,?_⟩
 try simp only[Qaj,pick,Qym,Qyn,Qyp,Qys,Qyr]
 repeat (go_big_quiet_step (fail))
 refine wpQuiet_nil ?_
 go_wp2_with (first
  | (refine QbT rfl rfl _ _ rfl ((C2.drew.later j2).nth 0 rfl) rfl rfl hml rfl ?_;intro w9 hb9 ho9)
  | fail)
 exact bodyPost_ret (Qaf rfl _ _ _ _ _ _ hb9 rfl Tryz.underlying45 rfl (by rw[Qyo,hml];exact Qb5)) rfl ⟨rfl,((C2.drew.later j2).write 0 rfl ho9 hb9).lat⟩
def QqF (al s:List UInt8):List UInt8:=k4 s++(al++s)
theorem QjE (al s:List UInt8) (h:al.length=32) (hs:s.length=32):(QqF al s).length=192:=by simp[QqF,Qjy,h,hs]
def QcK (ks us:List UInt8):List UInt8:=if QbO ks us=0 then QqF us (QdO ks us) else Qyl 192 0
theorem QcS (ks us:List UInt8):(QcK ks us).length=192:=by
 unfold QcK
 split
 ·rename_i h
  exact QjE _ _ (Qi0 h).2 (Qbw _ _)
 ·exact QyO
theorem Qvn:Tryz.zeroCells161.toList.length=192:=by kernel_rfl
set_option maxRecDepth 100000 in
set_option maxHeartbeats 4000000 in
theorem Qqw (A B:Option Addr) (n c m d:Nat) (ks us:List UInt8) (w:World) (hk:RdB w A n ks) (hu:RdB w B m us) (hn:n≤140737488355328) (hm:m≤140737488355328):
 Calls Tryz.prog 58 #[.slice A n c,.slice B m d] w fun e w'=>e= .returned (.tuple #[.agg ((QcK ks us).map W8).toArray,.int .i64 (QbO ks us:Nat)])∧Later w w':=by
 have hkl:=hk.len
 have hul:=hu.len
 have B0:=Qbh w 161 Tryz.zeroCells161.toList
 have hz0:=Qvn
 have hM:=hid (fun (w:World) A B c d h1 h2=>QlC A B n c m d ks us w h1 h2 hn hm)
 have hml:=Qbw ks us
 have hP1:=hid (fun (h:QbO ks us=0)=>show QcK ks us=QqF us (QdO ks us) by rw[QcK,if_pos h])
 have hP2:=hid (fun (h: ¬QbO ks us=0)=>show QcK ks us=Qyl 192 0 by rw[QcK,if_neg h])
 have hlen:=hid (fun (h:QbO ks us=0)=>(Qi0 h).2)
 have hPl:=QcS ks us
 generalize QcK ks us=PL at *
 generalize QdO ks us=M at *
 generalize QbO ks us=e9 at *
 by_cases he:e9=0
 ·have hP:=hP1.out he
  have hul2:=hlen.out he
  have hS:=hid (fun w=>Qmi us M hul2 hml w)
  rw[show k4 M++(us++M)=PL from hP.symm]at hS
  obtain rfl:m=32:=by omega
  subst he
  clear hP1 hP2 hlen hP
  have hput:putB (Qyl 32 (0:UInt8)) 0 us=us:=QlZ _ _ (by simp[hul2])
  have hz32:(Qyl 32 (0:UInt8)).length=32:=by simp
  have hzm:(Qyl 32 (Value.int .u8 0))=(Qyl 32 (0:UInt8)).map W8:=by rw[Qy5];rfl
  generalize Qyl 32 (0:UInt8)=Z at *
  have HP:=hid hput
  have HZ:=hid hzm
  clear hput hzm
  go_enter Tryz.func58,Tryz.ntmps58
  go_wp2_with fail
  generalize hW:w.alloc _=w0
  replace B0:Bag w w0 [(w.heap.size,161,Tryz.zeroCells161.toList)]:=by rw[←hW];exact B0
  clear hW
  (with_reducible refine (hM.out _ _ _ _ _ (hk.later B0.lat) (hu.later B0.lat)).mono ?_);rintro e w1 ⟨rfl,j1⟩
  go_wp2_with (first
   | (refine QbT rfl rfl _ _ rfl (Blk.new w1 _ (Qyl 32 (.int .u8 0))) rfl rfl hml rfl ?_;intro w2 hb2 ho2
      have B1:=B0.push (j1.trans (Qaa w1 _)) j1.size ho2 hb2
      have B2:=B1.add (Qaa w2 (.cells (Qyl 32 (Value.int .u8 0)).toArray 45)) (k:=w2.heap.size) (by have h1:=(B1.nth 0 rfl).lt;have h2:=(B1.nth 1 rfl).lt;simp;omega) B1.lat.size ((Blk.new w2 _ (Qyl 32 (.int .u8 0))).cast HZ.out))
   | (refine QsU 0 32 rfl _ _ _ _ rfl 5 Tryz.underlying25 Qbo (B2.nth 0 rfl) (hu.later B2.lat) rfl rfl (by omega) ?_;intro w3 hb3 ho3
      rw[HP.out]at hb3
      have B3:=B2.write 0 rfl ho3 hb3)
   | (refine Qgj rfl _ rfl (B3.nth 0 rfl) hul2 rfl ?_)
   | (refine Qgj rfl _ rfl (B3.nth 1 rfl) hml rfl ?_)
   | fail)
  (with_reducible refine (hS.out _).mono ?_);rintro e w4 ⟨rfl,j4⟩
  go_wp2_with (first
   | (refine QeL rfl rfl _ _ rfl ((B3.later j4).nth 2 rfl) rfl rfl hPl hz0 ?_;intro w9 hb9 ho9)
   | fail)
  exact bodyPost_ret (Qaf rfl _ _ _ _ _ _ hb9 rfl Tryz.underlying161 rfl (by rw[Qyo,hPl];exact QgH)) rfl ⟨rfl,((B3.later j4).write 2 rfl ho9 hb9).lat⟩
 ·have hP:=hP2.out he
  have hb0:=Qj8
  rw[←hP]at hb0
  have hne:((e9:Int) != 0)=true:=by simp;omega
  clear hP1 hP2 hlen hP
  go_enter Tryz.func58,Tryz.ntmps58
  go_wp2_with fail
  generalize hW:w.alloc _=w0
  replace B0:Bag w w0 [(w.heap.size,161,Tryz.zeroCells161.toList)]:=by rw[←hW];exact B0
  clear hW
  (with_reducible refine (hM.out _ _ _ _ _ (hk.later B0.lat) (hu.later B0.lat)).mono ?_);rintro e w1 ⟨rfl,j1⟩
  go_wp2_with (first
   | (refine QbT rfl rfl _ _ rfl (Blk.new w1 _ (Qyl 32 (.int .u8 0))) rfl rfl hml rfl ?_;intro w2 hb2 ho2
      have B1:=B0.push (j1.trans (Qaa w1 _)) j1.size ho2 hb2)
   | (refine Qar rfl 161 _ rfl (PL.map W8) ?hb ?_;(case hb=>simp only[Qyw,QyD];exact hb0))
   | (refine QeL rfl rfl _ _ rfl (B1.nth 1 rfl) rfl rfl hPl hz0 ?_;intro w9 hb9 ho9)
   | fail)
  exact bodyPost_ret (Qaf rfl _ _ _ _ _ _ hb9 rfl Tryz.underlying161 rfl (by rw[Qyo,hPl];exact QgH)) rfl ⟨rfl,(B1.write 1 rfl ho9 hb9).lat⟩
def kMac (s:List UInt8):List UInt8:=subB s 0 32
def kStr (s:List UInt8):List UInt8:=subB s 32 32
def kPay (s:List UInt8):List UInt8:=subB s 64 32
def kBli (s:List UInt8):List UInt8:=subB s 96 32
def kAlp (s:List UInt8):List UInt8:=subB s 128 32
def tagB (key al be:List UInt8):List UInt8:=(Qbk key (al++be)).take 16
def QmK (h s:List UInt8):Bool:=decide (tagB (kMac s) (subB h 0 32) (subB h 48 240)=subB h 32 16)
def Qcr (h s:List UInt8):List UInt8:=xorB (subB h 48 240++Qyl 48 0) (chaS (kStr s) 288)
def Qk1 (s:List UInt8):List UInt8:=QdO (kBli s) (kAlp s)
def QqV (s:List UInt8):Nat:=QbO (kBli s) (kAlp s)
def Qhb (h s:List UInt8):Nat:=if QmK h s=false then 6 else if decE ((Qcr h s).take 32)≠0 then 3 else if (decC ((Qcr h s).take 32)).kd=1 then QqV s else 0
def Qke (h s:List UInt8):Cmd:=if Qhb h s=0 then decC ((Qcr h s).take 32) else cmd0
def Qie (h s:List UInt8):List UInt8:=if Qhb h s=0∧(decC ((Qcr h s).take 32)).kd=1 then Qk1 s++(Qcr h s).drop 32 else Qyl 288 0
theorem QeR (h s:List UInt8) (hl:h.length=288):(Qcr h s).length=288:=by
 have h1:(subB h 48 240).length=240:=Qas (by omega)
 rw[Qcr,Qbg (by simp[h1,Qb8]),Qb8]
theorem Qfz (h s:List UInt8) (hl:h.length=288):(Qie h s).length=288:=by
 unfold Qie
 split
 ·rw[Qyz,QyQ,QeR h s hl,Qk1,Qbw]
 ·rw[QyO]
def relE (s p:List UInt8):Nat:=Qhb (p.take 288) s
def relC (s p:List UInt8):Cmd:=Qke (p.take 288) s
def Qc8 (s p:List UInt8):List UInt8:=Qeb (kPay s) (p.drop 288) rsO
def relP (s p:List UInt8):List UInt8:=if relE s p=0∧(relC s p).kd=1 then Qie (p.take 288) s++Qc8 s p else Qyl 768 0
def relB (s p:List UInt8):List UInt8:=if relE s p=0∧(relC s p).kd≠1 then Qc8 s p else []
def unwE (k p:List UInt8):Nat:=if QbO k (p.take 32)=0 then relE (QcK k (p.take 32)) p else QbO k (p.take 32)
def unwC (k p:List UInt8):Cmd:=if QbO k (p.take 32)=0 then relC (QcK k (p.take 32)) p else cmd0
def unwP (k p:List UInt8):List UInt8:=if QbO k (p.take 32)=0 then relP (QcK k (p.take 32)) p else Qyl 768 0
def unwB (k p:List UInt8):List UInt8:=if QbO k (p.take 32)=0 then relB (QcK k (p.take 32)) p else []
theorem QcA {P:Program} {fn:Func} {p q u:Tmp} {ty ty2:TypeId} (h:fn.results= #[.cell p ty,.cell q ty2,.tmp u]) (tmps:Array Value) (w:World) (g g2:Nat) (t t2:TypeId) (l l2:List Value) (d d2:TypeDesc)
 (hg:Blk w g t l) (hp:tmps.getD p undef= .pointer (some ⟨g,0,none⟩)) (hu:P.underlying ty=some d) (hd:Qa8 d=true) (hi:(P.info? ty).map (·.size)=some l.length)
 (hg2:Blk w g2 t2 l2) (hp2:tmps.getD q undef= .pointer (some ⟨g2,0,none⟩)) (hu2:P.underlying ty2=some d2) (hd2:Qa8 d2=true) (hi2:(P.info? ty2).map (·.size)=some l2.length):
 (results fn tmps).run P w= .ok (.tuple #[.agg l.toArray,.agg l2.toArray,tmps.getD u undef]) w:=by
 have h1:=QaY (P:=P) w g 0 ty l d (fun j v hv=>by rw[QyE];exact hg.cellD j hv) hu hd hi
 have h2:=QaY (P:=P) w g2 0 ty2 l2 d2 (fun j v hv=>by rw[QyE];exact hg2.cellD j hv) hu2 hd2 hi2
 have hp':tmps[p]?.getD undef= .pointer (some ⟨g,0,none⟩):=by simpa using hp
 have hq':tmps[q]?.getD undef= .pointer (some ⟨g2,0,none⟩):=by simpa using hp2
 simp[results,h,Sem.run_bind,Result.andThen,hp',hq',asAddr,h1,h2]
set_option maxRecDepth 100000 in
set_option maxHeartbeats 2000000 in
theorem QnI (h s:List UInt8) (hl:h.length=288) (hs:s.length=192) (w:World):
 Calls Tryz.prog 117 #[.agg (h.map W8).toArray,.agg (s.map W8).toArray] w fun e w'=>e= .returned (.bool (QmK h s))∧Later w w':=by
 have C1:=Qbh w 97 (h.map W8)
 have C2:Bag w ((w.alloc (.cells (h.map W8).toArray 97)).alloc (.cells (s.map W8).toArray 161)) [(w.heap.size+1,161,s.map W8),(w.heap.size,97,h.map W8)]:=
  C1.add (Qaa _ _) (by simp) (by omega) (Blk.new' _ _ _ (by simp))
 clear C1
 have s0:(subB h 0 32).length=32:=Qas (by omega)
 have s1:(subB h 32 16).length=16:=Qas (by omega)
 have s2:(subB h 48 240).length=240:=Qas (by omega)
 have k0:(kMac s).length=32:=Qas (by omega)
 have hC:=hid (fun A B C d e0 (w:World) h1 h2 h3=>Qo0 A B C 32 32 2 d 16 e0 (kMac s) (subB h 32 16) [subB h 0 32,subB h 48 240] w h1 (by omega) (by omega) h2 (by omega) h3 (by omega) (by simp[s0,s2]))
 have hF:=hid (show QmK h s=decide ((Qbk (kMac s) [subB h 0 32,subB h 48 240].flatten).take 16=subB h 32 16) by
  rw[QmK,tagB,List.flatten_cons,List.flatten_cons,List.flatten_nil,QyT])
 go_enter Tryz.func117,Tryz.ntmps117
 go_wp2_with fail
 generalize hW:(w.alloc _).alloc _=w1
 replace C2:Bag w w1 [(w.heap.size+1,161,s.map W8),(w.heap.size,97,h.map W8)]:=by rw[←hW];exact C2
 clear hW
 refine Qad [([0,1,2,3,4,5,6,7,8],9),([],10)] [11] [] (by as_aux_lemma=>kernel_rfl) (by as_aux_lemma=>kernel_rfl) (by intro _ _ d _ _ h;cases d<;>exact h) ?_
 simp only[Qaj,pick,Qym,Qyn,Qyp,Qys,Qyr]
 repeat (go_big_quiet_step (fail))
 refine wpQuiet_nil ?_
 go_wp2_with fail
 try refine⟨by first|assumption|exact Qab _|exact Qaa _ _|exact Later.refl _,?_⟩
 try simp only[Qaj,pick,Qym,Qyn,Qyp,Qys,Qyr]
 repeat (go_big_quiet_step (fail))
 refine wpQuiet_nil ?_
 have l2:=(Qab w1).trans (Qaa _ (.cells #[.slice (some ⟨w.heap.size,0,none⟩) 32 32,.slice (some ⟨w.heap.size,48,none⟩) 240 240] 25))
 have B2:=C2.later l2
 have P3:=Qg3 (bad:=fun _=>False) (ps:=[subB h 0 32,subB h 48 240]) ((Blk.new w1.drew 25 [.slice (some ⟨w.heap.size,0,none⟩) 32 32,.slice (some ⟨w.heap.size,48,none⟩) 240 240]).rd rfl) (Qbx _ _) ⟨Qdx (QcD (B2.nth 1 rfl) rfl s0) (Qyv _),Qdx (QcD (B2.nth 1 rfl) rfl s2) (Qyv _),trivial⟩
 go_wp2_with fail
 (refine (hC.out _ _ _ _ _ _ (QcD (B2.nth 0 rfl) rfl k0) (QcD (B2.nth 1 rfl) rfl s1) P3).mono ?_);rintro e w3 ⟨rfl,l3⟩
 rw[←hF.out]
 go_wp2_with fail
 try refine⟨by first|assumption|exact Qab _|exact Qaa _ _|exact Later.refl _,?_⟩
 try simp only[Qaj,pick,Qym,Qyn,Qyp,Qys,Qyr]
 repeat (go_big_quiet_step (fail))
 refine wpQuiet_nil ?_
 go_wp2_with fail
 go_ret
 exact⟨rfl,B2.lat.trans l3⟩
abbrev cz0:List Value:=[.int .u8 0,.int .u8 0,.int .u32 0,.int .u64 0,.int .u8 0,.int .u8 0,.int .u8 0,.int .u8 0,.int .u8 0,.int .u8 0,.int .u8 0,.int .u8 0,.int .u8 0,.int .u8 0,.int .u8 0,.int .u8 0,.int .u8 0,.int .u8 0,.int .u8 0,.int .u8 0]
theorem Qcj {w:World} {b p n:Nat} {bs:List UInt8} (h:RdB w (some ⟨b,p,none⟩) n bs) (i:Nat) (hi:i<n):w.cell? ⟨b,p+i,none⟩=some (W8 (bs.getD i 0)):=by
 obtain⟨b',o',he,_,hc⟩:=h.2 (by omega)
 have hl:=h.len
 cases he
 exact hc i _ (by rw[QyF,Qyt,Qyq (by omega)];rfl)
theorem Qmy (b:List UInt8) (hb:b.length=32) (d:UInt32) (x:UInt64) (hd:d=(QeY b).dl) (hx:x=(QeY b).nx):
 Qan (((CC ⟨b.getD 0 0,b.getD 1 0,0,0,Qa3⟩).set 2 (W32 d)).set 3 (W64 x)) 4 (((b.drop 14).map W8).take 16)=CC (QeY b):=by
 subst hd hx
 have hm:=Qmq b hb
 have hml:((b.drop 14).map W8).take 16=(subB b 14 16).map W8:=by rw[←Qzp];rfl
 have hl:=Qas (bs:=b) (off:=14) (n:=16) (by omega)
 rw[hml,Qan,Qyo,hl,QzV (by rw[QyY,QyY,Qao];omega),QyT,CC,CC,hm]
 rfl
theorem QnH (b:List UInt8):decE b=if (!(cmdE (QeY b)==1)&&(!(b.getD 30 0==0)|| !(b.getD 31 0==0)))=true then 3 else cmdE (QeY b):=by
 rw[decE]
 congr 1
 simp
theorem Qmg (c:Cmd):cmdE c=0∨cmdE c=1∨cmdE c=3∨cmdE c=11:=by
 unfold cmdE
 split
 ·simp
 ·split
  ·simp
  ·split<;>simp
set_option maxRecDepth 100000 in
set_option maxHeartbeats 8000000 in
theorem QkU (A:Option Addr) (c:Nat) (b:List UInt8) (w:World) (hb:RdB w A 32 b) (hc:32≤c):
 Calls Tryz.prog 119 #[.slice A 32 c] w fun e w'=>e= .returned (.tuple #[.agg (CC (decC b)).toArray,.int .i64 (decE b:Nat)])∧Later w w':=by
 have hbl:=hb.len
 obtain⟨b0,p,rfl,_,_⟩:=hb.2 (by omega)
 have B0:=Qbh w 53 cz0
 have hz0:cz0.length=20:=rfl
 have hG1:Hid (∀ w,RdB w (some ⟨b0,p,none⟩) 32 b→Calls Tryz.prog 62 #[.int .i64 2,.slice (some ⟨b0,p,none⟩) 32 c,.int .i64 2,.int .i64 4] w fun e w'=>e= .returned (.tuple #[W64 (QyM (beN (subB b 2 4) 0)),.int .i64 0])∧Later w w'):=
  hid (fun w h=>QfZ _ 32 c 2 4 b w h (by omega) (by omega) (by omega) (by omega))
 have hG2:Hid (∀ w,RdB w (some ⟨b0,p,none⟩) 32 b→Calls Tryz.prog 62 #[.int .i64 2,.slice (some ⟨b0,p,none⟩) 32 c,.int .i64 6,.int .i64 8] w fun e w'=>e= .returned (.tuple #[W64 (QyM (beN (subB b 6 8) 0)),.int .i64 0])∧Later w w'):=
  hid (fun w h=>QfZ _ 32 c 6 8 b w h (by omega) (by omega) (by omega) (by omega))
 have hfill:=hid (Qmy b hbl _ (QyM (beN (subB b 6 8) 0)) (Qtm (beN (subB b 2 4) 0)) rfl)
 have hcut:cutA (some ⟨b0,p,none⟩) 30 c=some ⟨b0,p+30,none⟩:=by rw[cutA,if_neg (by omega)];rfl
 have hcutc:cutA (some ⟨b0,p,none⟩) 14 c=some ⟨b0,p+14,none⟩:=by rw[cutA,if_neg (by omega)];rfl
 have hCk:=hid (Qnq (QeY b))
 have hE:=Qmg (QeY b)
 have hD:=hid (QnH b)
 have hC:=hid (show decC b=if decE b=0 then QeY b else cmd0 from rfl)
 have hcd:=hb.cut (c:=c) (show 14≤32 by omega) hc
 rw[hcutc]at hcd
 generalize QyM (beN (subB b 2 4) 0)=x1 at *
 generalize QyM (beN (subB b 6 8) 0)=x2 at *
 generalize decC b=DC at *
 generalize decE b=DE at *
 generalize cmdE (QeY b)=e9 at *
 have hb0:=QhM
 go_enter Tryz.func119,Tryz.ntmps119
 go_wp2_with fail
 generalize hW:w.alloc _=w1
 replace B0:Bag w w1 [(w.heap.size,53,cz0)]:=by rw[←hW];exact B0
 clear hW
 have r1:=(hb.later B0.lat).later (Qab _)
 have c0:=Qcj r1 0 (by omega)
 have c1:=Qcj r1 1 (by omega)
 have hlb:b0<w1.drew.heap.size:=by
  obtain⟨_,_,he,h,_⟩:=r1.2 (by omega)
  cases he
  exact h
 rw[Qz3]at c0
 have hbc:=QmP (b.getD 0 0) (b.getD 1 0)
 generalize b.getD 0 0=k0 at *
 generalize b.getD 1 0=k1 at *
 refine Qad [([0,1,2,3,4,5,6],7)] [] [8] (by as_aux_lemma=>kernel_rfl) (by as_aux_lemma=>kernel_rfl) (by intro _ _ d _ _ h;cases d<;>exact h) ?_
 simp only[Qaj,pick,Qym,Qyn,Qyp,Qys,Qyr]
 repeat (first|go_big_quiet_skip|(go_big_quiet_want;(refine Qdr _ _ rfl (CC ⟨k0,k1,0,0,Qa3⟩) (by simp only[Qyw,QyJ,QyD];exact hbc) ?_);simp only[Act.put,Qyu,Qyy,Qyx];go_big_quiet_on)|(go_big_quiet_step (fail)))
 refine wpQuiet_nil ?_
 go_wp2_with fail
 try refine⟨by first|assumption|exact Qab _|exact Qaa _ _|exact Later.refl _,?_⟩
 try simp only[Qaj,pick,Qym,Qyn,Qyp,Qys,Qyr]
 repeat (go_big_quiet_step (fail))
 refine wpQuiet_nil ?_
 go_wp2_with (first
  | (refine Qcl rfl rfl _ _ rfl (Blk.new w1.drew _ cz0) rfl rfl rfl ?_;intro w3 hb3 ho3)
  | fail)
 have B1:=B0.push ((Qab _).trans (Qaa _ _)) (Qyv _) ho3 hb3
 clear hb3 ho3 r1 c0 c1 hlb B0
 generalize w1.heap.size=g3 at *
 (with_reducible refine (hG1.out _ (hb.later B1.lat)).mono ?_);rintro e w4 ⟨rfl,j4⟩
 go_wp2_with fail
 (with_reducible refine (hG2.out _ (hb.later (B1.lat.trans j4))).mono ?_);rintro e w5 ⟨rfl,j5⟩
 replace B1:=(B1.later j4).later j5
 clear j4 j5 hG1 hG2
 go_wp2_with (first
  | (refine Qag rfl rfl _ _ _ rfl g3 2 _ _ (B1.nth 0 rfl) rfl (by rw[Qao];omega) rfl (by kernel_rfl) ?_;intro v6 w6 hv6 hb6 ho6;simp[go_sem]at hv6;subst hv6
     have B2:=B1.write 0 rfl ho6 hb6)
  | (refine Qag rfl rfl _ _ _ rfl g3 3 _ _ (B2.nth 0 rfl) rfl (by rw[QyY,Qao];omega) rfl (by kernel_rfl) ?_;intro v7 w7 hv7 hb7 ho7;simp[go_sem]at hv7;subst hv7
     have B3:=B2.write 0 rfl ho7 hb7)
  | fail)
 clear hb6 ho6 hb7 ho7 B1 B2
 have B4:=B3.drew
 have hlb:b0<w7.drew.heap.size:=by
  obtain⟨_,_,he,h,_⟩:=(hb.later B4.lat).2 (by omega)
  cases he
  exact h
 refine Qad [] [0,1,2,3] [4] (by as_aux_lemma=>kernel_rfl) (by as_aux_lemma=>kernel_rfl) (by intro _ _ d _ _ h;cases d<;>exact h) ?_
 simp only[Qaj,pick,Qym,Qyn,Qyp,Qys,Qyr]
 repeat (go_big_quiet_step (fail))
 refine wpQuiet_nil ?_
 go_wp2_with (first
  | (refine Qaq rfl _ _ _ _ rfl 5 Tryz.underlying25 Qbo g3 4 16 16 _ _ (B4.nth 0 rfl) (some ⟨b0,p+14,none⟩) 18 (c-14) ((b.drop 14).map W8) (Rd.later hcd B4.lat) (QaC _) rfl rfl (by have:=Qao ⟨k0,k1,0,0,Qa3⟩;simp only[QyY];omega) ?_;intro w8 hb8 ho8;rw[hfill.out]at hb8
     have B5:=B4.write 0 rfl ho8 hb8)
  | (refine QgX rfl _ rfl (B5.nth 0 rfl) rfl ?_)
  | fail)
 (with_reducible refine (hCk.out _).mono ?_);rintro e w9 ⟨rfl,j9⟩
 have B6:=B5.later j9
 have r9:=hb.later B6.lat
 have c30:=Qcj r9 30 (by omega)
 have c31:=Qcj r9 31 (by omega)
 clear hb8 ho8 B5 B4 B3 j9 hcd hcutc hfill hCk r9 hlb hbc
 generalize b.getD 30 0=d30 at *
 generalize b.getD 31 0=d31 at *
 generalize QeY b=cm at *
 rcases hE with rfl|rfl|rfl|rfl
 all_goals
  cases h30:(d30==0)<;>cases h31:(d31==0)
  all_goals
   have hDE:=hD.out
   have hDC:=hC.out
   rw[h30,h31]at hDE
   simp at hDE
   rw[hDE]at hDC
   simp at hDC
   replace hDE:=hid hDE
   replace hDC:=hid hDC
   have n30:(d30 != 0)= !(d30==0):=rfl
   have n31:(d31 != 0)= !(d31==0):=rfl
   rw[h30]at n30
   rw[h31]at n31
   clear hD hC
   go_wp2_with (first
    | (refine QgX rfl _ rfl (B6.nth 0 rfl) rfl ?_)
    | (refine Qah rfl _ _ rfl (CC cmd0) (by simp only[Qyw,QyD];exact hb0) ?_)
    | (refine Qcl rfl rfl _ _ rfl (B6.nth 1 rfl) rfl rfl hz0 ?_;intro w10 hb10 ho10)
    | fail)
   exact bodyPost_ret (Qaf rfl _ _ _ _ _ _ hb10 rfl Tryz.underlying53 rfl (by rw[Qao];exact Qe1)) rfl ⟨by rw[hDE.out,hDC.out];rfl,(B6.write 1 rfl ho10 hb10).lat⟩
section
variable {ops:Array Oper} {rest:List Oper} {o:Oper} {a:Act} {w:World} {Q:Exit→Act→World→Prop}
theorem QhJ {P:Program} {J:Act→Prop} (ty:TypeId) (x:Operand) (ho:o.op= .load ty x) {w0:World} {bad:List Nat} {g:Nat} {t:TypeId} {l:List Value} (off:Nat) (vs:List Value) (hb:Blk w0 g t l) (hn:∀b∈bad,g≠b) (hx:a.eval x= .pointer (some ⟨g,off,none⟩))
 (hv:∀j v,vs[j]?=some v→l[off+j]?=some v) (d:TypeDesc) (hu:P.underlying ty=some d) (hd:Qa8 d=true) (hi:(P.info? ty).map (·.size)=some vs.length) (h:J (a.put o.dst (.agg vs.toArray))):o.quiet P a (Spared w0 bad) J:=
 QaQ _ x ho g off vs (fun _ hw j v hv'=>Blk.cellD (hw.blk hb hn) _ (hv j v hv')) hx d hu hd hi h
end
theorem Qjb (l:List Value):∀j v,l[j]?=some v→l[0+j]?=some v:=fun j v h=>by rw[QyE];exact h
theorem QlG {w:World} {g n k:Nat} {t:TypeId} {bs:List UInt8} {rest:List Value} (h:Blk w g t (bs.map W8++rest)) (hn:bs.length=n) (hk:k<n):Rd w (some ⟨g,k,none⟩) (n-k) ((bs.drop k).map W8):=by
 have h1:=(QcU h hn).cut (k:=k) (c:=n+1) (by omega) (by omega)
 rw[show cutA (some ⟨g,0,none⟩) k (n+1)=some ⟨g,k,none⟩ by
  rw[cutA,if_neg (by omega)]
  show some ((⟨g,0,none⟩:Addr).add k)=_
  rw[QbM,QyE]]at h1
 exact h1
theorem QqO (nb pl:List UInt8) (hn:nb.length=32) (hp:pl.length=288):putB (putB (putB (Qyl 288 0) 0 nb) 32 ((pl.drop 32).take 16)) 48 (pl.drop 48)=nb++pl.drop 32:=by
 have h:=Qph (nb++pl.drop 32) (by rw[Qyz,QyQ];omega)
 rw[QAo hn,Qzh hn,show (nb++pl.drop 32).drop 48=pl.drop 48 by rw[QAi,QzV (by omega),Qyr,hn,QAc]]at h
 exact h
theorem Qnr (h s:List UInt8) (hl:h.length=288):[subB h 48 240,Qyl 48 0].flatten.length=288∧xorB [subB h 48 240,Qyl 48 0].flatten (chaS (kStr s) 288)=Qcr h s:=by
 have s2:(subB h 48 240).length=240:=Qas (by omega)
 rw[List.flatten_cons,List.flatten_cons,List.flatten_nil,QyT]
 exact⟨by rw[Qyz,s2,QyO],rfl⟩
set_option maxRecDepth 100000 in
set_option maxHeartbeats 8000000 in
theorem Qpy (h s:List UInt8) (hl:h.length=288) (hs:s.length=192) (w:World):
 Calls Tryz.prog 89 #[.agg (h.map W8).toArray,.agg (s.map W8).toArray] w fun e w'=>e= .returned (.tuple #[.agg (CC (Qke h s)).toArray,.agg ((Qie h s).map W8).toArray,.int .i64 (Qhb h s:Nat)])∧Later w w':=by
 have HZ:=hid zcH
 have l0:(Qyl 288 (0:UInt8)).length=288:=QyO
 have C1:=Qbh w 97 (h.map W8)
 have C2:=C1.add (Qaa _ (.cells (s.map W8).toArray 161)) (k:=w.heap.size+1) (by simp) (by omega) (Blk.new' _ _ _ (by simp))
 have C3:=C2.add (Qaa _ (.cells cz0.toArray 53)) (k:=w.heap.size+2) (by simp) (by omega) (Blk.new' _ _ _ (by simp))
 have C4:=C3.add (Qaa _ (.cells Tryz.zeroCells97 97)) (k:=w.heap.size+3) (by simp) (by omega) ((Blk.new' _ _ Tryz.zeroCells97.toList (by simp)).cast HZ.out)
 clear C1 C2 C3
 have s2:(subB h 48 240).length=240:=Qas (by omega)
 have k1:(kStr s).length=32:=Qas (by omega)
 have hF:=hid (QnI h s hl hs)
 have hpf:=Qnr h s hl
 have hT:=hid (fun B d g (w:World) hk hp=>QoI (some ⟨g,32,none⟩) 32 2 d B (kStr s) [subB h 48 240,Qyl 48 0] w hk hp (by omega) (by rw[hpf.1];omega))
 rw[hpf.1,hpf.2]at hT
 have hpl:=QeR h s hl
 have hD:=hid (fun A c (w:World) h1 h2=>QkU A c ((Qcr h s).take 32) w h1 h2)
 have hE:Hid (Qhb h s=if QmK h s=false then 6 else if decE ((Qcr h s).take 32)≠0 then 3 else if (decC ((Qcr h s).take 32)).kd=1 then QqV s else 0):=hid rfl
 have hC:Hid (Qke h s=if Qhb h s=0 then decC ((Qcr h s).take 32) else cmd0):=hid rfl
 have hN:Hid (Qie h s=if Qhb h s=0∧(decC ((Qcr h s).take 32)).kd=1 then Qk1 s++(Qcr h s).drop 32 else Qyl 288 0):=hid rfl
 have hX:=hid (fun (w:World)=>Qqs s (kBli s) (kAlp s) hs rfl rfl w)
 have hput:=hid (QqO (Qk1 s) (Qcr h s) (Qbw _ _) hpl)
 have hXb:Hid (QdO (kBli s) (kAlp s)=Qk1 s∧QbO (kBli s) (kAlp s)=QqV s):=hid ⟨rfl,rfl⟩
 rw[hXb.out.1,hXb.out.2]at hX
 have nbl:(Qk1 s).length=32:=Qbw _ _
 have hb0:=QhM
 have hbh:=Ql9
 clear hpf hXb
 generalize Qke h s=OC at *
 generalize Qie h s=ON at *
 generalize Qhb h s=OE at *
 generalize QmK h s=F at *
 generalize Qcr h s=pl at *
 generalize decE (pl.take 32)=dE at *
 generalize decC (pl.take 32)=dC at *
 generalize QqV s=nE at *
 generalize Qk1 s=nb at *
 have hnbl:=nbl
 generalize Qyl 288 (0:UInt8)=Z at *
 have hzl:(Z.map W8).length=288:=by rw[Qyo];exact l0
 have hz0:cz0.length=20:=rfl
 go_enter Tryz.func89,Tryz.ntmps89
 go_wp2_with (first
  | (refine Qlz rfl _ rfl (C4.nth 3 rfl) hl rfl ?_)
  | (refine Qiy rfl _ rfl (C4.nth 2 rfl) hs rfl ?_)
  | fail)
 (with_reducible refine (hF.out _).mono ?_);rintro e w5 ⟨rfl,l5⟩
 replace C4:=C4.later l5
 clear l5 hF
 cases F
 ·have HE:=hE.out
  rw[if_pos rfl]at HE
  have HC:=hC.out
  rw[HE,if_neg (by decide)]at HC
  have HN:=hN.out
  rw[HE,if_neg (by simp)]at HN
  replace HE:=hid HE
  replace HC:=hid HC
  replace HN:=hid HN
  clear hE hC hN
  go_wp2_with (first
   | (refine Qah rfl 53 _ rfl (CC cmd0) (by simp only[Qyw,QyD];exact hb0) ?_)
   | (refine Qah rfl 97 _ rfl (Z.map W8) (by simp only[Qyw,QyD];exact hbh) ?_)
   | (refine Qcl rfl rfl _ _ rfl (C4.nth 1 rfl) rfl rfl hz0 ?_;intro w6 hb6 ho6
      have C5:=C4.write 1 rfl ho6 hb6)
   | (refine Qdu rfl rfl _ _ rfl (C5.nth 0 rfl) rfl rfl l0 hzl ?_;intro w7 hb7 ho7
      have C6:=C5.write 0 rfl ho7 hb7)
   | fail)
  exact bodyPost_ret (QcA rfl _ _ _ _ _ _ _ _ _ _ (C6.nth 1 rfl) rfl Tryz.underlying53 rfl (by rw[Qao];exact Qe1) (C6.nth 0 rfl) rfl Tryz.underlying97 rfl (by rw[Qyo,l0];exact Qcn)) rfl ⟨by rw[HE.out,HC.out,HN.out];rfl,C6.lat⟩
 ·replace hE:Hid (OE=if dE≠0 then 3 else if dC.kd=1 then nE else 0):=hid (by rw[hE.out,if_neg (by decide)])
  go_wp2_with fail
  have C5:=C4.drew
  clear C4
  refine Qad [([0,1,2,3,4],5),([],6),([],7)] [8,9,10,11,12] [] (by as_aux_lemma=>kernel_rfl) (by as_aux_lemma=>kernel_rfl) (by intro _ _ d _ _ h;cases d<;>exact h) ?_
  simp only[Qaj,pick,Qym,Qyn,Qyp,Qys,Qyr]
  repeat (go_big_quiet_step (fail))
  refine wpQuiet_nil ?_
  go_wp2_with (first
   | (refine QaT rfl _ _ _ rfl 5 _ 1 Tryz.underlying25 QcG rfl _ _ _ _ 48 rfl rfl rfl rfl (by omega) (by omega) ?_;intro w6 hb6 hl6)
   | fail)
  try refine⟨by first|assumption|exact Qab _|exact Qaa _ _|exact Later.refl _,?_⟩
  try simp only[Qaj,pick,Qym,Qyn,Qyp,Qys,Qyr]
  repeat (go_big_quiet_step (fail))
  refine wpQuiet_nil ?_
  have C6:=C5.later hl6
  go_wp2_with fail
  try refine⟨by first|assumption|exact Qab _|exact Qaa _ _|exact Later.refl _,?_⟩
  try simp only[Qaj,pick,Qym,Qyn,Qyp,Qys,Qyr]
  repeat (go_big_quiet_step (fail))
  refine wpQuiet_nil ?_
  have l7:=Qaa w6 (.cells #[.slice (some ⟨w.heap.size,48,none⟩) 240 240,.slice (some ⟨w5.drew.heap.size,0,none⟩) 48 48] 25)
  have C7:=C6.later l7
  have P7:=Qg3 (bad:=fun _=>False) (ps:=[subB h 48 240,Qyl 48 0]) ((Blk.new w6 25 [.slice (some ⟨w.heap.size,48,none⟩) 240 240,.slice (some ⟨w5.drew.heap.size,0,none⟩) 48 48]).rd rfl) (Qbx _ _) ⟨Qdx (QcD (C7.nth 3 rfl) rfl s2) (Qyv _),Qdx (show RdB _ (some ⟨w5.drew.heap.size,0,none⟩) 48 (Qyl 48 0) from (hb6.later l7).rd rfl) (Qyv _),trivial⟩
  have hk7:=QcD (C7.nth 2 rfl) rfl k1
  go_wp2_with fail
  (refine (hT.out _ _ _ _ hk7 P7).mono ?_);rintro e w8 ⟨A8,c8,rfl,o8,l8⟩
  obtain⟨g8,r8,rfl,hg8,hb8,hc8,hcc8⟩:=Qif o8 (by omega)
  have C8:=C7.fresh l8 hg8 hb8
  clear C5 C6 C7 P7 hk7 l7 hl6 hb6 hT o8 hb8 hg8 hc8
  go_wp2_with fail
  try refine⟨by first|assumption|exact Qab _|exact Qaa _ _|exact Later.refl _,?_⟩
  try simp only[Qaj,pick,Qym,Qyn,Qyp,Qys,Qyr]
  repeat (go_big_quiet_step (fail))
  refine wpQuiet_nil ?_
  go_wp2_with fail
  (refine (hD.out _ _ _ ((QcU (C8.nth 0 rfl) hpl).take (m:=32) (by omega)) (by omega)).mono ?_);rintro e w9 ⟨rfl,l9⟩
  have C9:=C8.later l9
  clear C8 l9 hD
  by_cases hd0:dE=0
  ·subst hd0
   replace hE:Hid (OE=if dC.kd=1 then nE else 0):=hid (by rw[hE.out,if_neg (by simp)])
   cases hk1:(dC.kd==1)
   ·have hkn: ¬dC.kd=1:=by simpa using hk1
    have n1:(dC.kd != 1)=true:=by rw[bne,hk1];rfl
    have HE:OE=0:=by rw[hE.out,if_neg hkn]
    have HC:OC=dC:=by rw[hC.out,HE,if_pos rfl]
    have HN:ON=Z:=by rw[hN.out,if_neg (fun h=>hkn h.2)]
    replace HE:=hid HE
    replace HC:=hid HC
    replace HN:=hid HN
    clear hE hC hN hkn
    go_wp2_with (first
     | (refine Qcl rfl rfl _ _ rfl (Blk.new w9 _ cz0) rfl rfl rfl ?_;intro w10 hb10 ho10
        have C10:=C9.push (Qaa _ _) (Qyv _) ho10 hb10
        have hc0:=(QgT hb10).1)
     | (refine QgX rfl _ rfl (C10.nth 0 rfl) rfl ?_)
     | (refine Qah rfl 97 _ rfl (Z.map W8) (by simp only[Qyw,QyD];exact hbh) ?_)
     | (refine Qcl rfl rfl _ _ rfl (C10.nth 3 rfl) rfl rfl hz0 ?_;intro w11 hb11 ho11
        have C11:=C10.write 3 rfl ho11 hb11)
     | (refine Qdu rfl rfl _ _ rfl (C11.nth 2 rfl) rfl rfl l0 hzl ?_;intro w12 hb12 ho12
        have C12:=C11.write 2 rfl ho12 hb12)
     | fail)
    exact bodyPost_ret (QcA rfl _ _ _ _ _ _ _ _ _ _ (C12.nth 3 rfl) rfl Tryz.underlying53 rfl (by rw[Qao];exact Qe1) (C12.nth 2 rfl) rfl Tryz.underlying97 rfl (by rw[Qyo,l0];exact Qcn)) rfl ⟨by rw[HE.out,HC.out,HN.out];rfl,C12.lat⟩
   ·have hky:dC.kd=1:=by simpa using hk1
    have n1:(dC.kd != 1)=false:=by rw[bne,hk1];rfl
    replace hE:Hid (OE=nE):=hid (by rw[hE.out,if_pos hky])
    have l1:(putB Z 0 nb).length=288:=by rw[Qb3 (by omega)];exact l0
    have l2:(putB (putB Z 0 nb) 32 ((pl.drop 32).take 16)).length=288:=by rw[Qb3 (by rw[QyW,QyQ];omega)];exact l1
    have e3:((pl.drop 48).take 240)=pl.drop 48:=QyA (by rw[QyQ];omega)
    have HNL:(nb++pl.drop 32).length=288:=by rw[Qyz,QyQ];omega
    replace e3:=hid e3
    generalize hZ2:putB (putB Z 0 nb) 32 ((pl.drop 32).take 16)=Z2 at *
    generalize hZ1:putB Z 0 nb=Z1 at *
    replace hZ1:=hid hZ1
    replace hZ2:=hid hZ2
    replace hky:=hid hky
    go_wp2_with (first
     | (refine Qcl rfl rfl _ _ rfl (Blk.new w9 _ cz0) rfl rfl rfl ?_;intro w10 hb10 ho10
        have C10:=C9.push (Qaa _ _) (Qyv _) ho10 hb10
        have hc0:=(QgT hb10).1)
     | (refine Qiy rfl _ rfl ((C10.later (Qaa _ _)).nth 4 rfl) hs rfl ?_)
     | fail)
    (with_reducible refine (hX.out _).mono ?_);rintro e w11 ⟨rfl,l11⟩
    have C11:=(C10.fresh (Qaa _ _) (Qyv _) ((Blk.new w10 _ Tryz.zeroCells97.toList).cast HZ.out)).later l11
    clear hb10 ho10 l11 C10 C9
    have hc0':=(QgT (C11.nth 1 rfl)).1
    by_cases hn0:nE=0
    ·subst hn0
     have HE:=hE.out
     have HC:OC=dC:=by rw[hC.out,HE,if_pos rfl]
     have HN:ON=nb++pl.drop 32:=by rw[hN.out,if_pos ⟨HE,hky.out⟩]
     replace HE:=hid HE
     replace HC:=hid HC
     replace HN:=hid HN
     clear hE hC hN
     generalize nb++pl.drop 32=NX at *
     have hNX:=hid (Qh6 NX 288 HNL)
     go_wp2_with (first
      | (refine Qnw 0 32 rfl rfl _ _ rfl (C11.nth 0 rfl) rfl rfl QeB hnbl (by omega) ?_;intro w12 hb12 ho12;rw[hZ1.out]at hb12
         have C12:=C11.write 0 rfl ho12 hb12)
      | fail)
     have C13:=C12.drew
     clear C11 C12 hb12 ho12
     have r32:=QlG (k:=32) (C13.nth 2 rfl) hpl (by omega)
     refine Qad [] [0,1,2,3] [4] (by as_aux_lemma=>kernel_rfl) (by as_aux_lemma=>kernel_rfl) (by intro _ _ d _ _ h;cases d<;>exact h) ?_
     simp only[Qaj,pick,Qym,Qyn,Qyp,Qys,Qyr]
     repeat (go_big_quiet_step (fail))
     refine wpQuiet_nil ?_
     go_wp2_with (first
      | (refine Qaq rfl _ _ _ _ rfl 5 Tryz.underlying25 Qbo w10.heap.size 32 16 16 _ _ (C13.nth 0 rfl) (some ⟨g8,32,none⟩) 256 (c8-32) ((pl.drop 32).map W8) r32 (QaC _) rfl rfl (by rw[Qyo];omega) ?_;intro w14 hb14 ho14;rw[←Qzp,Qcb,hZ2.out]at hb14
         have C14:=C13.write 0 rfl ho14 hb14)
      | fail)
     have C15:=C14.drew
     simp only[Act.put,Qyu,Qyy,Qyx]
     have r48:=QlG (k:=48) (C15.nth 2 rfl) hpl (by omega)
     refine Qad [] [0,1,2,3] [4] (by as_aux_lemma=>kernel_rfl) (by as_aux_lemma=>kernel_rfl) (by intro _ _ d _ _ h;cases d<;>exact h) ?_
     simp only[Qaj,pick,Qym,Qyn,Qyp,Qys,Qyr]
     repeat (go_big_quiet_step (fail))
     refine wpQuiet_nil ?_
     go_wp2_with (first
      | (refine Qaq rfl _ _ _ _ rfl 5 Tryz.underlying25 Qbo w10.heap.size 48 240 240 _ _ (C15.nth 0 rfl) (some ⟨g8,48,none⟩) 240 (c8-48) ((pl.drop 48).map W8) r48 (QaC _) rfl rfl (by rw[Qyo];omega) ?_;intro w16 hb16 ho16;rw[←Qzp,Qcb,e3.out,hput.out]at hb16
         have C16:=C15.write 0 rfl ho16 hb16)
      | fail)
     simp only[Act.put,Qyu,Qyy,Qyx]
     clear hb14 ho14 hb16 ho16 C13 C14 C15 r32 r48
     have hne03:=C16.ne 0 4 rfl rfl (by decide)
     refine Qec [0,1] [2,3,4] (fun i=>if i=1 then [2] else []) (fun i=>if i=2 then w.heap.size+2 else w.heap.size+3) (by as_aux_lemma=>kernel_rfl) (by as_aux_lemma=>kernel_rfl) (by intro _ _ d _ _ h;cases d<;>exact h) ?_
     refine⟨_,rfl,rfl,?_⟩
     refine QhJ _ _ rfl 0 (CC dC) (C16.nth 1 rfl) (by simp) rfl (Qjb _) _ Tryz.underlying53 rfl (by rw[Qao];exact Qe1) ?_
     simp only[Act.put,Qyu,Qyy,Qyx]
     refine⟨_,rfl,rfl,?_⟩
     refine QhJ _ _ rfl 0 (NX.map W8) (C16.nth 0 rfl) (by intro b hb;simp at hb;subst hb;exact hne03) rfl (Qjb _) _ Tryz.underlying97 rfl (by rw[Qyo,HNL];exact Qcn) ?_
     simp only[Act.put,Qyu,Qyy,Qyx]
     simp only[Qja,QgZ,pick,Qym,Qyn,Qyp,Qys,Qyr]
     refine Qcl rfl rfl _ _ rfl (C16.drew.nth 4 rfl) rfl rfl hz0 ?_
     intro w17 hb17 ho17
     have C17:=C16.drew.write 4 rfl ho17 hb17
     refine⟨ho17,?_⟩
     refine Qdu rfl rfl _ _ rfl (C17.nth 3 rfl) rfl rfl HNL hzl ?_
     intro w18 hb18 ho18
     have C18:=C17.write 3 rfl ho18 hb18
     refine⟨ho18,?_⟩
     go_wp2_with fail
     refine⟨World.grownBy.refl _ _,?_⟩
     go_wp2_with fail
     exact bodyPost_ret (QcA rfl _ _ _ _ _ _ _ _ _ _ (C18.nth 4 rfl) rfl Tryz.underlying53 rfl (by rw[Qao];exact Qe1) (C18.nth 3 rfl) rfl Tryz.underlying97 rfl (by rw[Qyo,HNL];exact Qcn)) rfl ⟨by rw[HE.out,HC.out,HN.out];rfl,C18.lat⟩
    ·have hne:((nE:Int) != 0)=true:=by simp;omega
     have HE:=hE.out
     have HC:OC=cmd0:=by rw[hC.out,HE,if_neg hn0]
     have HN:ON=Z:=by rw[hN.out,HE,if_neg (fun h=>hn0 h.1)]
     replace HE:=hid HE
     replace HC:=hid HC
     replace HN:=hid HN
     clear hE hC hN
     go_wp2_with (first
      | (refine Qnw 0 32 rfl rfl _ _ rfl (C11.nth 0 rfl) rfl rfl QeB hnbl (by omega) ?_;intro w12 hb12 ho12;rw[hZ1.out]at hb12
         have C12:=C11.write 0 rfl ho12 hb12)
      | (refine Qah rfl 53 _ rfl (CC cmd0) (by simp only[Qyw,QyD];exact hb0) ?_)
      | (refine Qah rfl 97 _ rfl (Z.map W8) (by simp only[Qyw,QyD];exact hbh) ?_)
      | (refine Qcl rfl rfl _ _ rfl (C12.nth 4 rfl) rfl rfl hz0 ?_;intro w13 hb13 ho13
         have C13:=C12.write 4 rfl ho13 hb13)
      | (refine Qdu rfl rfl _ _ rfl (C13.nth 3 rfl) rfl rfl l0 hzl ?_;intro w14 hb14 ho14
         have C14:=C13.write 3 rfl ho14 hb14)
      | fail)
     exact bodyPost_ret (QcA rfl _ _ _ _ _ _ _ _ _ _ (C14.nth 4 rfl) rfl Tryz.underlying53 rfl (by rw[Qao];exact Qe1) (C14.nth 3 rfl) rfl Tryz.underlying97 rfl (by rw[Qyo,l0];exact Qcn)) rfl ⟨by rw[HE.out,HC.out,HN.out];rfl,C14.lat⟩
  ·have HE:OE=3:=by rw[hE.out,if_pos hd0]
   have HC:OC=cmd0:=by rw[hC.out,HE,if_neg (by decide)]
   have HN:ON=Z:=by rw[hN.out,HE,if_neg (by simp)]
   have hne:((dE:Int) != 0)=true:=by simp;omega
   replace HE:=hid HE
   replace HC:=hid HC
   replace HN:=hid HN
   clear hE hC hN
   go_wp2_with (first
    | (refine Qcl rfl rfl _ _ rfl (Blk.new w9 _ cz0) rfl rfl rfl ?_;intro w10 hb10 ho10
       have C10:=C9.push (Qaa _ _) (Qyv _) ho10 hb10)
    | (refine Qah rfl 53 _ rfl (CC cmd0) (by simp only[Qyw,QyD];exact hb0) ?_)
    | (refine Qah rfl 97 _ rfl (Z.map W8) (by simp only[Qyw,QyD];exact hbh) ?_)
    | (refine Qcl rfl rfl _ _ rfl (C10.nth 3 rfl) rfl rfl hz0 ?_;intro w11 hb11 ho11
       have C11:=C10.write 3 rfl ho11 hb11)
    | (refine Qdu rfl rfl _ _ rfl (C11.nth 2 rfl) rfl rfl l0 hzl ?_;intro w12 hb12 ho12
       have C12:=C11.write 2 rfl ho12 hb12)
    | fail)
   exact bodyPost_ret (QcA rfl _ _ _ _ _ _ _ _ _ _ (C12.nth 3 rfl) rfl Tryz.underlying53 rfl (by rw[Qao];exact Qe1) (C12.nth 2 rfl) rfl Tryz.underlying97 rfl (by rw[Qyo,l0];exact Qcn)) rfl ⟨by rw[HE.out,HC.out,HN.out];rfl,C12.lat⟩
end Go.Proofs.YtcbdgnlcknllnaaGreat
