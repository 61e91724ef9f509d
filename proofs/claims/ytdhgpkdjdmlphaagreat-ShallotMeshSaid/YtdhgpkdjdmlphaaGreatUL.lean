/-
  Lemmas for the last text of this claim (part 12 of 20).
-/
import Derived.ArgAppend
import Derived.BigQuiet
import Derived.BigRegion
import Derived.ChangeOld
import Derived.Deep.RegionWith
import Derived.DeepKeys4
import Derived.JoinedCond
import Derived.LaidMore
import Derived.Laws.BytesArg
import Derived.Laws.CopyOwn
import Derived.Laws.Externs
import Derived.Laws.IdiomStrings
import Derived.Laws.Tables
import Derived.Lib.AppendStr
import Derived.Lib.AppendZerosOnto
import Derived.Lib.Mul64
import Derived.Lib.SlBytesConst
import Derived.LoopN
import Derived.Maps.OwnSet
import Derived.OpenShut
import Derived.OrdersHeld
import Derived.ProofKit
import Derived.Shelf.Spec.BitsCarry
import Derived.ShutString
import Derived.Test.YtdhgpkdjdmlphaaGreatProg
import Derived.Test.YtdhgpkdjdmlphaaGreatRows
import Derived.WalkKit
import Derived.WalkLawsBesides
import Derived.WalkSpells
import Derived.Test.YtdhgpkdjdmlphaaGreatUB
import Derived.Test.YtdhgpkdjdmlphaaGreatUD
import Derived.Test.YtdhgpkdjdmlphaaGreatUG
import Derived.Test.YtdhgpkdjdmlphaaGreatUH
import Derived.Test.YtdhgpkdjdmlphaaGreatUJ
open Bool renaming and_eq_true → QGM, eq_iff_iff → QHh
open Int renaming natCast_mul → QIi, toNat_natCast → QIq
open List renaming replicate → QGn, getElem?_cons_succ → QGo, getElem?_cons_zero → QGp, length_map → QGr, cons_append → QGu, nil_append → QGv, setIfInBounds_toArray → QGw, length_append → QGy, set_cons_zero → QGz, length_replicate → QGA, set_cons_succ → QGB, map_toArray → QGC, take_of_length_le → QGD, getElem?_append_right → QGE, getElem?_append_left → QGG, map_nil → QGH, append_assoc → QGI, mem_cons → QGJ, not_mem_nil → QGK, getElem?_eq_some_iff → QGL, length_drop → QGQ, map_cons → QGR, take_append_drop → QGX, range → QG0, mem_map → QG2, map_append → QG6, map_replicate → QG8, mem_append → QHd, mem_singleton → QHO, drop_drop → QHY, map_take → QH0, range_succ → QH5, flatten_append → QIL
open Nat renaming le_refl → QGx, lt_of_lt_of_le → QGN, le_trans → QG9, mul_comm → QHp, le_mul_of_pos_right → QHE, sub_self → QHG
open Option renaming toList_some → QGs, map_some → QH9
set_option linter.all false
namespace Go.Proofs.YtdhgpkdjdmlphaaGreat
open Go.RowKit
open Go.BigFrame
abbrev sMac:ByteArray:=⟨#[109,97,99]⟩
abbrev Qe8:ByteArray:=⟨#[115,116,114,101,97,109]⟩
abbrev sPay:ByteArray:=⟨#[112,97,121]⟩
abbrev Qcw:ByteArray:=⟨#[98,108,105,110,100]⟩
def k4 (s:List UInt8):List UInt8:=derB s sMac++(derB s Qe8++(derB s sPay++derB s Qcw))
theorem Qjm (s:List UInt8):(k4 s).length=128:=by simp[k4,QaK]
theorem QBr (s:List UInt8):QdW s [sMac,Qe8,sPay,Qcw] 4=k4 s:=by
 rw[QdW,k4]
 simp
def ofB (s:List UInt8):List UInt8:=if s.length=32 then k4 s else QGn 128 0
def ofE (s:List UInt8):Nat:=if s.length=32 then 0 else 2
theorem QlQ:(Tryz.prog.info? 51).map (·.size)=some 128:=by kernel_rfl
theorem QBC:(Tryz.prog.info? 51).bind (·.zero)=some (.agg (QGn 128 (W8 0)).toArray):=by kernel_rfl
theorem Qso (p q r s:List UInt8) (hp:p.length=32) (hq:q.length=32) (hr:r.length=32) (hs:s.length=32):
 Program.built Tryz.prog 51 [(0,.agg (p.map W8).toArray),(1,.agg (q.map W8).toArray),(2,.agg (r.map W8).toArray),(3,.agg (s.map W8).toArray)]=some ((p++(q++(r++s))).map W8).toArray:=by
 have h:=QgP (n:=128) (pl:=[(0,32),(32,32),(64,32),(96,32)]) Tryz.underlying51 QBC (by kernel_rfl) [(0,0,p),(1,32,q),(2,64,r),(3,96,s)] (by
  intro x hx
  simp only[QGJ,QGK,or_false]at hx
  rcases hx with rfl|rfl|rfl|rfl<;>simp[hp,hq,hr,hs])
 rw[show Qgq (QGn 128 0) ([(0,0,p),(1,32,q),(2,64,r),(3,96,s)].map fun x=>(x.2.1,x.2.2))=p++(q++(r++s)) by
  simp only[QGR,QGH,Qgq]
  rw[show QGn 128 (0:UInt8)=QGn 32 0++(QGn 32 0++(QGn 32 0++QGn 32 0)) by simp]
  rw[Qe1 _ _ _ (by simp[hp]),QcC _ _ _ _ 32 hp (by simp[hq])]
  rw[←QGI p q,QcC _ _ _ _ 64 (by simp[hp,hq]) (by simp[hr]),←QGI _ r,QeT _ _ _ 96 (by simp[hp,hq,hr]) (by simp[hs])]
  simp]at h
 exact h
theorem Qpz:Program.built Tryz.prog 51 []=some ((QGn 128 (0:UInt8)).map W8).toArray:=by
 rw[QG8]
 kernel_rfl
section
variable {ops:Array Oper} {rest:List Oper} {o:Oper} {a:Act} {w:World} {Q:Exit→Act→World→Prop}
theorem Qoy (hgd:o.guard=none) (hd:o.dst=none) (x y:Operand) (ho:o.op= .store 51 x y) {g:Nat} {t:TypeId} {l:List Value} {bs:List UInt8} (hg:Blk w g t l) (hx:a.eval x= .pointer (some ⟨g,0,none⟩)) (hy:a.eval y= .agg (bs.map W8).toArray) (hbl:bs.length=128) (hl:l.length=128)
 (h:∀w',Blk w' g t (bs.map W8)→Only g w w'→wpList Tryz.prog ops Q rest a w'):wpList Tryz.prog ops Q (o :: rest) a w:=
 QhO 128 hgd hd x y ho hg hx hy QlQ hbl hl h
theorem QCW (hw:Region.wanted o (yielded ops a.tmps)=true) (x:Operand) (ho:o.op= .load 51 x) {g:Nat} {t:TypeId} {bs:List UInt8} (hb:Blk w g t (bs.map W8)) (hl:bs.length=128) (hx:a.eval x= .pointer (some ⟨g,0,none⟩))
 (h:wpList Tryz.prog ops Q rest (a.put o.dst (.agg (bs.map W8).toArray)) w):wpList Tryz.prog ops Q (o :: rest) a w:=
 Qbz hw _ x ho g t _ hb hx _ Tryz.underlying51 rfl 128 QlQ (by rw[QGr,hl]) h
end
set_option maxRecDepth 100000 in
set_option maxHeartbeats 4000000 in
theorem QBt (A:Option Addr) (n c:Nat) (s:List UInt8) (w:World) (hx:RdB w A n s) (hc:n≤c) (hn:n≤35184372088832):
 Calls Tryz.prog 96 #[.slice A n c] w fun e w'=>e= .returned (.tuple #[.agg ((ofB s).map W8).toArray,.int .i64 (ofE s:Nat)])∧Later w w':=by
 have hl:=hx.len
 have B0:=Qbk w 51 Tryz.zeroCells51.toList
 have hz0:Tryz.zeroCells51.toList.length=128:=by kernel_rfl
 by_cases h32:n=32
 ·subst h32
  have e1:ofE s=0:=by rw[ofE,if_pos hl]
  have e2:ofB s=k4 s:=by rw[ofB,if_pos hl]
  rw[e1,e2]
  clear e1 e2
  have hD:=hid (fun (w:World) B d h1 h2=>Qkn A B 32 c 4 d s [sMac,Qe8,sPay,Qcw] w h1 hc hn h2 (by omega) (by omega) (by intro x hx;simp only[QGJ,QGK,or_false]at hx;rcases hx with rfl|rfl|rfl|rfl<;>decide))
  rw[QBr]at hD
  rw[k4]at *
  have hp:=QaK s sMac
  have hq:=QaK s Qe8
  have hr:=QaK s sPay
  have ht:=QaK s Qcw
  generalize derB s sMac=p at *
  generalize derB s Qe8=q at *
  generalize derB s sPay=r at *
  generalize derB s Qcw=t at *
  have hbk:=Qso p q r t hp hq hr ht
  obtain⟨K,hK⟩:∃K,K=p++(q++(r++t)):=⟨_,rfl⟩
  rw[←hK]at hD hbk ⊢
  have s0:subB K 0 32=p:=by rw[hK,Qkv _ _ _ hp]
  have s1:subB K 32 32=q:=by rw[hK,Qch _ _ _ _ _ hp hq]
  have s2:subB K 64 32=r:=by rw[hK,←QGI,Qch _ _ _ _ _ (by simp[hp,hq]) hr]
  have s3:subB K 96 32=t:=by rw[hK,←QGI,←QGI,Qnp _ _ _ _ (by simp[hp,hq,hr]) ht]
  have hKl:K.length=128:=by rw[hK];simp[hp,hq,hr,ht]
  clear hK
  go_enter Tryz.func96,Tryz.ntmps96
  go_wp2_with fail
  generalize hW:(w.alloc _).alloc _=w1
  have B1:Bag w w1 [(w.heap.size,51,Tryz.zeroCells51.toList)]:=by rw[←hW];exact B0.later (Qaa _ _)
  have hS:Strs w1 (some ⟨w.heap.size+1,0,none⟩) 4 [sMac,Qe8,sPay,Qcw]:=by
   rw[←hW]
   exact Blk.rd (Blk.new' (w.alloc (.cells Tryz.zeroCells51 51)) 9 [Value.string sMac,Value.string Qe8,Value.string sPay,Value.string Qcw] (by simp)) rfl
  clear hW
  (with_reducible refine (hD.out _ _ 4 (hx.later B1.lat) hS).mono ?_);rintro e w2 ⟨g,rfl,hg,hb2,j2⟩
  have B2:=(B1.later j2).add (Qab _) (k:=g) (by have:=(B1.nth 0 rfl).lt;simp;omega) (by have:=B1.lat.size;omega) hb2.drew
  clear hS hb2 hg B0 j2 B1
  go_wp2_with fail
  refine Qaf [] [0,1,2,3,4,5,6,7,8,9,10,11,12] [13,14] (by as_aux_lemma=>kernel_rfl) (by as_aux_lemma=>kernel_rfl) (by intro _ _ d _ _ h;cases d<;>exact h) ?_
  simp only[Qaj,pick,QGo,QGp,QGs,QGu,QGv]
  repeat (first|go_big_quiet_skip|(go_big_quiet_want;(first|refine QhP 0 32 _ rfl (B2.nth 0 rfl) rfl Tryz.underlying30 rfl QfJ s0 hp ?_|refine QhP 32 32 _ rfl (B2.nth 0 rfl) rfl Tryz.underlying30 rfl QfJ s1 hq ?_|refine QhP 64 32 _ rfl (B2.nth 0 rfl) rfl Tryz.underlying30 rfl QfJ s2 hr ?_|refine QhP 96 32 _ rfl (B2.nth 0 rfl) rfl Tryz.underlying30 rfl QfJ s3 ht ?_|refine Qcr _ _ rfl (K.map W8) (by simp only[QGC,QGR,QGH];exact hbk) ?_);simp only[Act.put,QGw,QGB,QGz];go_big_quiet_on)|(go_big_quiet_step (fail)))
  refine wpQuiet_nil ?_
  go_wp2_with (first
   | (refine Qoy rfl rfl _ _ rfl (B2.nth 1 rfl) rfl rfl hKl hz0 ?_;intro w9 hb9 ho9)
   | fail)
  exact bodyPost_ret (Qac rfl _ _ _ _ _ _ hb9 rfl Tryz.underlying51 rfl (by rw[QGr,hKl];exact QlQ)) rfl ⟨rfl,(B2.write 1 rfl ho9 hb9).lat⟩
 ·have e1:ofE s=2:=by rw[ofE,if_neg (by omega)]
  have e2:ofB s=QGn 128 0:=by rw[ofB,if_neg (by omega)]
  rw[e1,e2]
  clear e1 e2
  have hb0:=Qpz
  have hzl:(QGn 128 (0:UInt8)).length=128:=by simp
  generalize QGn 128 (0:UInt8)=Z at *
  have hne:((n:Int) != 32)=true:=by simp;omega
  go_enter Tryz.func96,Tryz.ntmps96
  go_wp2_with (first
   | (refine Qap rfl 51 _ rfl (Z.map W8) ?hb ?_;(case hb=>simp only[QGC,QGH];exact hb0))
   | (refine Qoy rfl rfl _ _ rfl (B0.nth 0 rfl) rfl rfl hzl hz0 ?_;intro w9 hb9 ho9)
   | fail)
  exact bodyPost_ret (Qac rfl _ _ _ _ _ _ hb9 rfl Tryz.underlying51 rfl (by rw[QGr,hzl];exact QlQ)) rfl ⟨rfl,(Qaa _ _).only ho9 (QGx _)⟩
theorem QkD (x y:List UInt8) (off n:Nat):(subB x off n==subB y off n&&x.drop (off+n)==y.drop (off+n))=(x.drop off==y.drop off):=by
 rw[QHh]
 simp only[QGM,beq_iff_eq,subB,←QHY]
 constructor
 ·rintro⟨h1,h2⟩
  rw[←QGX n (x.drop off),h1,h2,QGX]
 ·intro h
  rw[h]
  exact⟨rfl,rfl⟩
theorem Qpi (x y:List UInt8) (off n:Nat) (hx:x.length=off+n) (hy:y.length=off+n):(subB x off n==subB y off n)=(x.drop off==y.drop off):=by
 rw[subB,subB,QGD (by rw[QGQ];omega),QGD (by rw[QGQ];omega)]
theorem QbO (x:List UInt8) (off n:Nat):(((x.map W8).drop off).take n)=(subB x off n).map W8:=by rw[subB,QH0,List.map_drop]
abbrev Y128:={l:List UInt8 // l.length=128}
theorem QmG {P:Program} {t:TypeId} {fs:Array Field} (hu:P.underlying t=some (.struct fs)):P.fieldsOf t=fs:=by unfold Program.fieldsOf;rw[hu]
theorem QAu (d:Nat) (x y:List UInt8) (hx:x.length=128) (hy:y.length=128) (w:World):
 (Op.eqFields (d+2) (x.map W8).toArray (y.map W8).toArray (Tryz.prog.fieldsOf 51).toList).run Tryz.prog w= .ok (x==y) w:=by
 rw[QmG Tryz.underlying51]
 have l1:∀off,off+32≤128→(subB x off 32).length=32:=fun off h=>Qaq (by omega)
 have l2:∀off,off+32≤128→(subB y off 32).length=32:=fun off h=>Qaq (by omega)
 rw[Qcp (k:=0) rfl (by decide) rfl (QbO x 0 32) (QbO y 0 32) (l1 _ (by omega)) (l2 _ (by omega)),Qcp (k:=32) rfl (by decide) rfl (QbO x 32 32) (QbO y 32 32) (l1 _ (by omega)) (l2 _ (by omega)),
  Qcp (k:=64) rfl (by decide) rfl (QbO x 64 32) (QbO y 64 32) (l1 _ (by omega)) (l2 _ (by omega)),Qcp (k:=96) rfl (by decide) rfl (QbO x 96 32) (QbO y 96 32) (l1 _ (by omega)) (l2 _ (by omega)),QdD]
 have h:(x==y)=(subB x 0 32==subB y 0 32&&(subB x 32 32==subB y 32 32&&(subB x 64 32==subB y 64 32&&subB x 96 32==subB y 96 32))):=by
  rw[Qpi x y 96 32 (by omega) (by omega),QkD x y 64 32,QkD x y 32 32,QkD x y 0 32]
  rfl
 rw[h]
 cases subB x 0 32==subB y 0 32<;>cases subB x 32 32==subB y 32 32<;>cases subB x 64 32==subB y 64 32<;>cases subB x 96 32==subB y 96 32<;>rfl
theorem Qyl:Tryz.prog.eqGuardType Tryz.prog.depth 51=false:=by kernel_rfl
theorem QsY:Tryz.prog.stoodInHeld 51=false:=by kernel_rfl
theorem QoD:Tryz.prog.underlying 51=some (.struct (Tryz.prog.fieldsOf 51)):=by rw[QmG Tryz.underlying51];exact Tryz.underlying51
@[go_sem high] theorem QzJ (op:BinOp) (x y:Operand) (xs ys:Array Value) (w:World):(eqGuard op 51 x y (.agg xs) (.agg ys)).run Tryz.prog w= .ok () w:=run_eqGuard_agg w op _ x y xs ys Qyl
@[go_sem high] theorem Qzc (x y:Y128) (w:World):(binOp .eql 51 (.agg (x.val.map W8).toArray) (.agg (y.val.map W8).toArray)).run Tryz.prog w= .ok (.bool (x.val==y.val)) w:=by
  rw[Qg6 QoD QsY,QAu 9997 _ _ x.2 y.2]
  rfl
theorem QjO:(Tryz.prog.info? 53).map (·.size)=some 192:=by kernel_rfl
theorem QzZ:(Tryz.prog.info? 53).bind (·.zero)=some (.agg (QGn 192 (W8 0)).toArray):=by kernel_rfl
theorem put3 (k a s:List UInt8) (hk:k.length=128) (ha:a.length=32) (hs:s.length=32):Qgq (QGn 192 0) [(0,k),(128,a),(160,s)]=k++(a++s):=by
 simp only[Qgq]
 rw[show QGn 192 (0:UInt8)=QGn 128 0++(QGn 32 0++QGn 32 0) by simp]
 rw[Qe1 _ _ _ (by simp[hk]),QcC _ _ _ _ 128 hk (by simp[ha]),←QGI,QeT _ _ _ 160 (by simp[hk,ha]) (by simp[hs]),QGI]
theorem Qrm (k a s:List UInt8) (hk:k.length=128) (ha:a.length=32) (hs:s.length=32):
 Program.built Tryz.prog 53 [(0,.agg (k.map W8).toArray),(1,.agg (a.map W8).toArray),(2,.agg (s.map W8).toArray)]=some ((k++(a++s)).map W8).toArray:=by
 have h:=QgP (n:=192) (pl:=[(0,128),(128,32),(160,32)]) Tryz.underlying53 QzZ (by kernel_rfl) [(0,0,k),(1,128,a),(2,160,s)] (by
  intro x hx
  simp only[QGJ,QGK,or_false]at hx
  rcases hx with rfl|rfl|rfl<;>simp[hk,ha,hs])
 rw[show Qgq (QGn 192 0) ([(0,0,k),(1,128,a),(2,160,s)].map fun x=>(x.2.1,x.2.2))=k++(a++s) from put3 k a s hk ha hs]at h
 exact h
theorem Qok:Program.built Tryz.prog 53 []=some ((QGn 192 (0:UInt8)).map W8).toArray:=by
 rw[QG8]
 kernel_rfl
section
variable {ops:Array Oper} {rest:List Oper} {o:Oper} {a:Act} {w:World} {Q:Exit→Act→World→Prop}
theorem Qfn (hgd:o.guard=none) (hd:o.dst=none) (x y:Operand) (ho:o.op= .store 53 x y) {g:Nat} {t:TypeId} {l:List Value} {bs:List UInt8} (hg:Blk w g t l) (hx:a.eval x= .pointer (some ⟨g,0,none⟩)) (hy:a.eval y= .agg (bs.map W8).toArray) (hbl:bs.length=192) (hl:l.length=192)
 (h:∀w',Blk w' g t (bs.map W8)→Only g w w'→wpList Tryz.prog ops Q rest a w'):wpList Tryz.prog ops Q (o :: rest) a w:=
 QhO 192 hgd hd x y ho hg hx hy QjO hbl hl h
theorem QfU (hw:Region.wanted o (yielded ops a.tmps)=true) (x:Operand) (ho:o.op= .load 53 x) {g:Nat} {t:TypeId} {bs:List UInt8} (hb:Blk w g t (bs.map W8)) (hl:bs.length=192) (hx:a.eval x= .pointer (some ⟨g,0,none⟩))
 (h:wpList Tryz.prog ops Q rest (a.put o.dst (.agg (bs.map W8).toArray)) w):wpList Tryz.prog ops Q (o :: rest) a w:=
 Qbz hw _ x ho g t _ hb hx _ Tryz.underlying53 rfl 192 QjO (by rw[QGr,hl]) h
end
set_option maxRecDepth 100000 in
set_option maxHeartbeats 4000000 in
theorem Qkz (al s:List UInt8) (hal:al.length=32) (hs:s.length=32) (w:World):
 Calls Tryz.prog 58 #[.agg (al.map W8).toArray,.agg (s.map W8).toArray] w fun e w'=>e= .returned (.tuple #[.agg ((k4 s++(al++s)).map W8).toArray,.int .i64 0])∧Later w w':=by
 have hO:=hid (fun (w:World) g h=>QBt (some ⟨g,0,none⟩) 32 32 s w h (by omega) (by omega))
 rw[show ofB s=k4 s by rw[ofB,if_pos hs],show ofE s=0 by rw[ofE,if_pos hs]]at hO
 have hkl:=Qjm s
 generalize k4 s=K at *
 have hbs:=Qrm K al s hkl hal hs
 have hTl:(K++(al++s)).length=192:=by simp[hkl,hal,hs]
 generalize K++(al++s)=T at *
 have hz1:Tryz.zeroCells51.toList.length=128:=by kernel_rfl
 have hz0:Tryz.zeroCells53.toList.length=192:=by kernel_rfl
 have C1:=Qbk w 30 (al.map W8)
 have C2:Bag w ((w.alloc (.cells (al.map W8).toArray 30)).alloc (.cells (s.map W8).toArray 30)) [(w.heap.size+1,30,s.map W8),(w.heap.size,30,al.map W8)]:=
  C1.add (Qaa _ _) (by simp) (by omega) (Blk.new' _ _ _ (by simp))
 have C3:Bag w (((w.alloc (.cells (al.map W8).toArray 30)).alloc (.cells (s.map W8).toArray 30)).alloc (.cells Tryz.zeroCells53 53)) [(w.heap.size+2,53,Tryz.zeroCells53.toList),(w.heap.size+1,30,s.map W8),(w.heap.size,30,al.map W8)]:=
  C2.add (Qaa _ _) (by simp) (by omega) (Blk.new' _ _ _ (by simp))
 clear C1 C2
 go_enter Tryz.func58,Tryz.ntmps58
 go_wp2_with fail
 generalize hW:((w.alloc _).alloc _).alloc _=w0
 replace C3:Bag w w0 [(w.heap.size+2,53,Tryz.zeroCells53.toList),(w.heap.size+1,30,s.map W8),(w.heap.size,30,al.map W8)]:=by rw[←hW];exact C3
 clear hW
 (with_reducible refine (hO.out _ _ (Qcv (C3.nth 1 rfl) hs)).mono ?_);rintro e w1 ⟨rfl,j1⟩
 go_wp2_with (first
  | (refine Qoy rfl rfl _ _ rfl (Blk.new w1 _ Tryz.zeroCells51.toList) rfl rfl hkl hz1 ?_;intro w2 hb2 ho2
     have C4:=C3.push (j1.trans (Qaa w1 _)) j1.size ho2 hb2)
  | (refine QCW rfl _ rfl (C4.nth 0 rfl) hkl rfl ?_)
  | (refine Qft rfl _ rfl (C4.nth 3 rfl) hal rfl ?_)
  | (refine Qft rfl _ rfl (C4.nth 2 rfl) hs rfl ?_)
  | (refine Qap rfl 53 _ rfl (T.map W8) ?hb ?_;(case hb=>simp only[QGC,QGR,QGH];exact hbs))
  | (refine Qfn rfl rfl _ _ rfl (C4.nth 1 rfl) rfl rfl hTl hz0 ?_;intro w9 hb9 ho9)
  | fail)
 exact bodyPost_ret (Qac rfl _ _ _ _ _ _ hb9 rfl Tryz.underlying53 rfl (by rw[QGr,hTl];exact QjO)) rfl ⟨rfl,(C4.write 1 rfl ho9 hb9).lat⟩
set_option maxRecDepth 100000 in
set_option maxHeartbeats 4000000 in
theorem Qqb (x b al:List UInt8) (hx:x.length=192) (hb:subB x 96 32=b) (hal:subB x 128 32=al) (w:World):
 Calls Tryz.prog 59 #[.agg (x.map W8).toArray] w fun e w'=>e= .returned (.tuple #[.agg ((QbB b al).map W8).toArray,.int .i64 (Qbt b al:Nat)])∧Later w w':=by
 have hbl:b.length=32:=by rw[←hb];exact Qaq (by omega)
 have hall:al.length=32:=by rw[←hal];exact Qaq (by omega)
 have hM:=hid (fun (w:World) g h1 h2=>Qiq (some ⟨g,96,none⟩) (some ⟨g,128,none⟩) 32 32 32 32 b al w h1 h2 (by omega) (by omega))
 have hml:=QaY b al
 generalize QbB b al=M at *
 generalize Qbt b al=e9 at *
 have C1:=Qbk w 53 (x.map W8)
 have C2:Bag w ((w.alloc (.cells (x.map W8).toArray 53)).alloc (.cells (QGn 32 (Value.int .u8 0)).toArray 30)) [(w.heap.size+1,30,QGn 32 (Value.int .u8 0)),(w.heap.size,53,x.map W8)]:=
  C1.add (Qaa _ _) (by simp) (by omega) (Blk.new' _ _ _ (by simp))
 clear C1
 go_enter Tryz.func59,Tryz.ntmps59
 go_wp2_with fail
 generalize hW:(w.alloc _).alloc _=w0
 replace C2:Bag w w0 [(w.heap.size+1,30,QGn 32 (Value.int .u8 0)),(w.heap.size,53,x.map W8)]:=by rw[←hW];exact C2
 clear hW
 refine Qaf [([0,1,2,3,4],5)] [6,7] [8,9] (by as_aux_lemma=>kernel_rfl) (by as_aux_lemma=>kernel_rfl) (by intro _ _ d _ _ h;cases d<;>exact h) ?_
 simp only[Qaj,pick,QGo,QGp,QGs,QGu,QGv]
 repeat (go_big_quiet_step (fail))
 refine wpQuiet_nil ?_
 go_wp2_with fail
 (with_reducible refine (hM.out _ _ (Qcc (C2.drew.nth 1 rfl) hb hbl) (Qcc (C2.drew.nth 1 rfl) hal hall)).mono ?_);rintro e w2 ⟨rfl,j2⟩
 go_wp2_with fail
 try refine⟨by first|assumption|exact Qab _|exact Qaa _ _|exact Later.refl _,?_⟩
 try simp only[Qaj,pick,QGo,QGp,QGs,QGu,QGv]
 repeat (go_big_quiet_step (fail))
 refine wpQuiet_nil ?_
 go_wp2_with (first
  | (refine QaO rfl rfl _ _ rfl ((C2.drew.later j2).nth 0 rfl) rfl rfl hml rfl ?_;intro w9 hb9 ho9)
  | fail)
 exact bodyPost_ret (Qac rfl _ _ _ _ _ _ hb9 rfl Tryz.underlying30 rfl (by rw[QGr,hml];exact Qbf)) rfl ⟨rfl,((C2.drew.later j2).write 0 rfl ho9 hb9).lat⟩
def Qlz (al s:List UInt8):List UInt8:=k4 s++(al++s)
theorem Qh2 (al s:List UInt8) (h:al.length=32) (hs:s.length=32):(Qlz al s).length=192:=by simp[Qlz,Qjm,h,hs]
theorem QpQ (al s:List UInt8) (h:al.length=32):subB (Qlz al s) 128 32=al:=by rw[Qlz,Qch _ _ _ _ _ (Qjm s) h]
theorem Qo8 (al s:List UInt8):subB (Qlz al s) 96 32=derB s Qcw:=by
 rw[Qlz,k4,show derB s sMac++(derB s Qe8++(derB s sPay++derB s Qcw))++(al++s)=(derB s sMac++(derB s Qe8++derB s sPay))++(derB s Qcw++(al++s)) by simp only[QGI],
  Qch _ _ _ _ _ (by simp[QaK]) (QaK _ _)]
def Qdx (ks us:List UInt8):List UInt8:=if Qbt ks us=0 then Qlz us (QbB ks us) else QGn 192 0
theorem QfT (ks us:List UInt8):(Qdx ks us).length=192:=by
 unfold Qdx
 split
 ·rename_i h
  exact Qh2 _ _ (Qm4 h).2 (QaY _ _)
 ·exact QGA
theorem QBh:Tryz.zeroCells53.toList.length=192:=by kernel_rfl
set_option maxRecDepth 100000 in
set_option maxHeartbeats 4000000 in
theorem QyD (A B:Option Addr) (n c m d:Nat) (ks us:List UInt8) (w:World) (hk:RdB w A n ks) (hu:RdB w B m us) (hn:n≤140737488355328) (hm:m≤140737488355328):
 Calls Tryz.prog 65 #[.slice A n c,.slice B m d] w fun e w'=>e= .returned (.tuple #[.agg ((Qdx ks us).map W8).toArray,.int .i64 (Qbt ks us:Nat)])∧Later w w':=by
 have hkl:=hk.len
 have hul:=hu.len
 have B0:=Qbk w 53 Tryz.zeroCells53.toList
 have hz0:=QBh
 have hM:=hid (fun (w:World) A B c d h1 h2=>Qiq A B n c m d ks us w h1 h2 hn hm)
 have hml:=QaY ks us
 have hP1:=hid (fun (h:Qbt ks us=0)=>show Qdx ks us=Qlz us (QbB ks us) by rw[Qdx,if_pos h])
 have hP2:=hid (fun (h: ¬Qbt ks us=0)=>show Qdx ks us=QGn 192 0 by rw[Qdx,if_neg h])
 have hlen:=hid (fun (h:Qbt ks us=0)=>(Qm4 h).2)
 have hPl:=QfT ks us
 generalize Qdx ks us=PL at *
 generalize QbB ks us=M at *
 generalize Qbt ks us=e9 at *
 by_cases he:e9=0
 ·have hP:=hP1.out he
  have hul2:=hlen.out he
  have hS:=hid (fun w=>Qkz us M hul2 hml w)
  rw[show k4 M++(us++M)=PL from hP.symm]at hS
  obtain rfl:m=32:=by omega
  subst he
  clear hP1 hP2 hlen hP
  have hput:putB (QGn 32 (0:UInt8)) 0 us=us:=QlX _ _ (by simp[hul2])
  have hz32:(QGn 32 (0:UInt8)).length=32:=by simp
  have hzm:(QGn 32 (Value.int .u8 0))=(QGn 32 (0:UInt8)).map W8:=by rw[QG8];rfl
  generalize QGn 32 (0:UInt8)=Z at *
  have HP:=hid hput
  have HZ:=hid hzm
  clear hput hzm
  go_enter Tryz.func65,Tryz.ntmps65
  go_wp2_with fail
  generalize hW:w.alloc _=w0
  replace B0:Bag w w0 [(w.heap.size,53,Tryz.zeroCells53.toList)]:=by rw[←hW];exact B0
  clear hW
  (with_reducible refine (hM.out _ _ _ _ _ (hk.later B0.lat) (hu.later B0.lat)).mono ?_);rintro e w1 ⟨rfl,j1⟩
  go_wp2_with (first
   | (refine QaO rfl rfl _ _ rfl (Blk.new w1 _ (QGn 32 (.int .u8 0))) rfl rfl hml rfl ?_;intro w2 hb2 ho2
      have B1:=B0.push (j1.trans (Qaa w1 _)) j1.size ho2 hb2
      have B2:=B1.add (Qaa w2 (.cells (QGn 32 (Value.int .u8 0)).toArray 30)) (k:=w2.heap.size) (by have h1:=(B1.nth 0 rfl).lt;have h2:=(B1.nth 1 rfl).lt;simp;omega) B1.lat.size ((Blk.new w2 _ (QGn 32 (.int .u8 0))).cast HZ.out))
   | (refine Qli 0 32 rfl _ _ _ _ rfl 5 Tryz.underlying22 Qb2 (B2.nth 0 rfl) (hu.later B2.lat) rfl rfl (by omega) ?_;intro w3 hb3 ho3
      rw[HP.out]at hb3
      have B3:=B2.write 0 rfl ho3 hb3)
   | (refine Qft rfl _ rfl (B3.nth 0 rfl) hul2 rfl ?_)
   | (refine Qft rfl _ rfl (B3.nth 1 rfl) hml rfl ?_)
   | fail)
  (with_reducible refine (hS.out _).mono ?_);rintro e w4 ⟨rfl,j4⟩
  go_wp2_with (first
   | (refine Qfn rfl rfl _ _ rfl ((B3.later j4).nth 2 rfl) rfl rfl hPl hz0 ?_;intro w9 hb9 ho9)
   | fail)
  exact bodyPost_ret (Qac rfl _ _ _ _ _ _ hb9 rfl Tryz.underlying53 rfl (by rw[QGr,hPl];exact QjO)) rfl ⟨rfl,((B3.later j4).write 2 rfl ho9 hb9).lat⟩
 ·have hP:=hP2.out he
  have hb0:=Qok
  rw[←hP]at hb0
  have hne:((e9:Int) != 0)=true:=by simp;omega
  clear hP1 hP2 hlen hP
  go_enter Tryz.func65,Tryz.ntmps65
  go_wp2_with fail
  generalize hW:w.alloc _=w0
  replace B0:Bag w w0 [(w.heap.size,53,Tryz.zeroCells53.toList)]:=by rw[←hW];exact B0
  clear hW
  (with_reducible refine (hM.out _ _ _ _ _ (hk.later B0.lat) (hu.later B0.lat)).mono ?_);rintro e w1 ⟨rfl,j1⟩
  go_wp2_with (first
   | (refine QaO rfl rfl _ _ rfl (Blk.new w1 _ (QGn 32 (.int .u8 0))) rfl rfl hml rfl ?_;intro w2 hb2 ho2
      have B1:=B0.push (j1.trans (Qaa w1 _)) j1.size ho2 hb2)
   | (refine Qap rfl 53 _ rfl (PL.map W8) ?hb ?_;(case hb=>simp only[QGC,QGH];exact hb0))
   | (refine Qfn rfl rfl _ _ rfl (B1.nth 1 rfl) rfl rfl hPl hz0 ?_;intro w9 hb9 ho9)
   | fail)
  exact bodyPost_ret (Qac rfl _ _ _ _ _ _ hb9 rfl Tryz.underlying53 rfl (by rw[QGr,hPl];exact QjO)) rfl ⟨rfl,(B1.write 1 rfl ho9 hb9).lat⟩
def stA (x:List UInt8) (ps:List (List UInt8)):Nat→List UInt8×List (List UInt8)
 | 0=>(QbB x (nb 9),[x])
 | k+1=>(QbB (derB (QcQ (ps.getD k []) (stA x ps k).2).1 Qcw) (stA x ps k).1,(stA x ps k).2++[derB (QcQ (ps.getD k []) (stA x ps k).2).1 Qcw])
def secA (x:List UInt8) (ps:List (List UInt8)) (k:Nat):List UInt8:=(QcQ (ps.getD k []) (stA x ps k).2).1
def errA (x:List UInt8) (ps:List (List UInt8)) (k:Nat):Nat:=(QcQ (ps.getD k []) (stA x ps k).2).2
def Qcz (x:List UInt8) (ps:List (List UInt8)) (k:Nat):List UInt8:=Qlz (stA x ps k).1 (secA x ps k)
def goE (x:List UInt8) (ps:List (List UInt8)):Nat→Nat→Nat
 | 0,_=>0
 | r+1,k=>if errA x ps k=0 then goE x ps r (k+1) else errA x ps k
def fitS (x:List UInt8) (ps:List (List UInt8)):Prop:=x.length=32∧1≤ps.length∧ps.length≤5∧∀p∈ps,p.length=32
open Classical in
noncomputable def Qdg (x:List UInt8) (ps:List (List UInt8)):Nat:=if fitS x ps then goE x ps ps.length 0 else 2
def QcD (x:List UInt8) (ps:List (List UInt8)) (k:Nat):List (List UInt8):=(QG0 k).map (Qcz x ps)
theorem QeH (x:List UInt8) (ps:List (List UInt8)) (k:Nat):(stA x ps k).1.length=32:=by
 cases k<;>exact QaY _ _
theorem QjZ (x:List UInt8) (ps:List (List UInt8)) (k:Nat):(secA x ps k).length=32:=Qmf _ _
theorem QcE (x:List UInt8) (ps:List (List UInt8)) (k:Nat):(Qcz x ps k).length=192:=Qh2 _ _ (QeH x ps k) (QjZ x ps k)
theorem Qgs (x:List UInt8) (ps:List (List UInt8)):∀k,(stA x ps k).2.length=k+1
 | 0=>rfl
 | k+1=>by
   rw[stA]
   simp[Qgs x ps k]
theorem Qgc (x:List UInt8) (hx:x.length=32) (ps:List (List UInt8)):∀k,∀p∈(stA x ps k).2,p.length=32
 | 0,p,h=>by
   rw[stA,QHO]at h
   rw[h,hx]
 | k+1,p,h=>by
   rw[stA]at h
   rcases QHd.1 h with h|h
   ·exact Qgc x hx ps k p h
   ·rw[QHO.1 h,QaK]
theorem Qqd (x:List UInt8) (hx:x.length=32) (ps:List (List UInt8)):∀k,∃q,Ed.From9 q∧(stA x ps k).1=nb q
 | 0=>⟨_,Ed.from9_step Ed.from9_nine x hx,(Qf8 x 9 hx Qza).1⟩
 | k+1=>by
   obtain⟨q,hq,e⟩:=Qqd x hx ps k
   refine⟨_,Ed.from9_step hq (derB (QcQ (ps.getD k []) (stA x ps k).2).1 Qcw) (QaK _ _),?_⟩
   rw[stA,e]
   exact (Qf8 _ q (QaK _ _) hq.1).1
theorem QqW (x:List UInt8) (hx:x.length=32) (ps:List (List UInt8)) (k:Nat) (b:List UInt8) (hb:b.length=32):Qbt b (stA x ps k).1=0:=by
 obtain⟨q,hq,e⟩:=Qqd x hx ps k
 rw[e,(Qf8 b q hb hq.1).2,if_neg (Ed.from9_ne (Ed.from9_step hq b hb))]
theorem QoY (x:List UInt8) (ps:List (List UInt8)) (k:Nat):QcD x ps (k+1)=QcD x ps k++[Qcz x ps k]:=by
 rw[QcD,QH5,QG6]
 rfl
theorem QgR (x:List UInt8) (ps:List (List UInt8)) (k:Nat):(QcD x ps k).length=k:=by simp[QcD]
theorem Qhz (x:List UInt8) (ps:List (List UInt8)) (k:Nat):∀s∈QcD x ps k,s.length=192:=by
 intro s hs
 obtain⟨j,_,rfl⟩:=QG2.1 hs
 exact QcE x ps j
theorem QoA (x:List UInt8) (ps:List (List UInt8)) (k:Nat):(QcD x ps (k+1)).flatten.map W8=(QcD x ps k).flatten.map W8++(Qcz x ps k).map W8:=by
 rw[QoY,QIL,QG6]
 simp
theorem QiU (x:List UInt8) (ps:List (List UInt8)) (k:Nat):subB (Qcz x ps k) 96 32=derB (secA x ps k) Qcw:=Qo8 _ _
theorem Qfs (x:List UInt8) (ps:List (List UInt8)) (k:Nat):subB (Qcz x ps k) 128 32=(stA x ps k).1:=QpQ _ _ (QeH x ps k)
def ScP (w0:World) (g8:Nat) (w:World) (v:Value) (p:List UInt8):Prop:=
 (∃ A c,v= .slice A 32 c∧32≤c∧RdB w0 A 32 p)∨(∃ b,v= .slice (some ⟨b,0,none⟩) 32 32∧b≠g8∧p.length=32∧Blk w b 30 (p.map W8))∨(∃ A c base,v= .slice A 32 c∧OwnB w base A 32 c p)
structure ScRow (w0:World) (g8:Nat) (w:World) (v:Value) (sc:List (List UInt8)) (vs:List Value):Prop where
 own:w.ownsRow w0.heap.size 22 1 v sc.length vs
 len:vs.length=sc.length
 each:∀(j:Nat) u p,vs[j]?=some u→sc[j]?=some p→ScP w0 g8 w u p
theorem Qx9:(30:TypeId)≠22:=by decide
theorem ne8L:(5:TypeId)≠22:=by decide
theorem QGe:(5:TypeId)≠30:=by decide
theorem ScP.later {w0 w w':World} {g8:Nat} {v:Value} {p:List UInt8} (h:ScP w0 g8 w v p) (j:Later w w'):ScP w0 g8 w' v p:=by
 rcases h with h|⟨b,h1,h2,h3,h4⟩|⟨A,c,base,h1,h2⟩
 ·exact .inl h
 ·exact .inr (.inl ⟨b,h1,h2,h3,h4.later j⟩)
 ·exact .inr (.inr ⟨A,c,base,h1,QaF h2 j⟩)
theorem ScP.part {w0 w:World} {g8:Nat} {v:Value} {p:List UInt8} (h:ScP w0 g8 w v p) (j:Later w0 w):Part w (fun _=>False) v p:=by
 rcases h with ⟨A,c,rfl,hc,h⟩|⟨b,rfl,_,h3,h4⟩|⟨A,c,base,rfl,h2⟩
 ·exact Qba (h.later j) hc
 ·exact Qba (Qcv h4 h3) (QGx _)
 ·exact Qba h2.rd h2.cap
theorem ScP.only {w0 w w':World} {g8:Nat} {v:Value} {p:List UInt8} {l:List Value} (h:ScP w0 g8 w v p) (hg:Blk w g8 30 l) (ho:Only g8 w w'):ScP w0 g8 w' v p:=by
 rcases h with h|⟨b,h1,h2,h3,h4⟩|⟨A,c,base,h1,h2⟩
 ·exact .inl h
 ·exact .inr (.inl ⟨b,h1,h2,h3,h4.only ho h2⟩)
 ·exact .inr (.inr ⟨A,c,base,h1,QaV h2 hg (fun e=>QGe e.symm) ho⟩)
theorem ScP.grown {w0 w w':World} {g8 base sz:Nat} {v v2:Value} {p:List UInt8} {e:TypeId} {n:Nat} {vs:List Value} (h:ScP w0 g8 w v p) (hown:w.ownsRow base e sz v2 n vs) (h1:30≠e) (h2:5≠e) (hg:w.grownBy w' v2.ownBlock):ScP w0 g8 w' v p:=by
 rcases h with h|⟨b,k1,k2,k3,k4⟩|⟨A,c,base',k1,k2⟩
 ·exact .inl h
 ·exact .inr (.inl ⟨b,k1,k2,k3,Qdi k4 hown h1 hg⟩)
 ·exact .inr (.inr ⟨A,c,base',k1,QcI k2 hown h2 hg⟩)
theorem ScRow.later {w0 w w':World} {g8:Nat} {v:Value} {sc:List (List UInt8)} {vs:List Value} (h:ScRow w0 g8 w v sc vs) (j:Later w w'):ScRow w0 g8 w' v sc vs:=
 ⟨QaF h.own j,h.len,fun k u p hu hp=>(h.each k u p hu hp).later j⟩
theorem ScRow.only {w0 w w':World} {g8:Nat} {v:Value} {sc:List (List UInt8)} {vs:List Value} {l:List Value} (h:ScRow w0 g8 w v sc vs) (hg:Blk w g8 30 l) (ho:Only g8 w w'):ScRow w0 g8 w' v sc vs:=
 ⟨QaV h.own hg Qx9 ho,h.len,fun k u p hu hp=>(h.each k u p hu hp).only hg ho⟩
theorem ScRow.grown {w0 w w':World} {g8 base sz:Nat} {v v2:Value} {sc:List (List UInt8)} {us vs:List Value} {e:TypeId} {n:Nat} (h:ScRow w0 g8 w v sc us) (hown:w.ownsRow base e sz v2 n vs) (h0:22≠e) (h1:30≠e) (h2:5≠e) (hg:w.grownBy w' v2.ownBlock):ScRow w0 g8 w' v sc us:=
 ⟨QcI h.own hown h0 hg,h.len,fun k u p hu hp=>(h.each k u p hu hp).grown hown h1 h2 hg⟩
theorem ScRow.snoc {w0 w w':World} {g8:Nat} {v v' u:Value} {sc:List (List UInt8)} {vs:List Value} {p:List UInt8} (h:ScRow w0 g8 w v sc vs) (hu:ScP w0 g8 w u p) (hg:w.grownBy w' v.ownBlock) (hown:w'.ownsRow w0.heap.size 22 1 v' (sc.length+1) (vs++[u])):ScRow w0 g8 w' v' (sc++[p]) (vs++[u]):=by
 refine⟨by rw[QGy];exact hown,by simp[h.len],fun j x q hx hq=>?_⟩
 by_cases hj:j<vs.length
 ·rw[QGG hj]at hx
  rw[QGG (by rw[←h.len];exact hj)]at hq
  exact (h.each j x q hx hq).grown h.own Qx9 ne8L hg
 ·rw[QGE (by omega)]at hx
  rw[QGE (by rw[←h.len];omega),←h.len]at hq
  have h0:j-vs.length=0:=by
   have:=(QGL.1 hx).1
   simp at this
   omega
  rw[h0]at hx hq
  cases hx
  cases hq
  exact hu.grown h.own Qx9 ne8L hg
theorem ScRow.parts {w0 w:World} {g8:Nat} {A:Option Addr} {n c:Nat} {sc:List (List UInt8)} {vs:List Value} (h:ScRow w0 g8 w (.slice A n c) sc vs) (hn:sc.length=n) (j:Later w0 w):Parts w (fun _=>False) A n sc:=by
 have ho:=h.own
 rw[hn]at ho
 exact⟨vs,Qnn ho,fun _ _ _ h=>h,h.len,fun k u p hu hp=>(h.each k u p hu hp).part j⟩
section
variable {P:Program} {ops:Array Oper} {rest:List Oper} {o:Oper} {a:Act} {w:World} {Q:Exit→Act→World→Prop}
theorem Qik (hgd:o.guard=none) (l c:Operand) (t:TypeId) (ho:o.op=Op.makeSlice t l c) (e:TypeId) (v:Value) (m bytes:Nat) (ht:P.underlying t=some (.slice e))
 (hinfo:(P.info? e).map (fun i=>(i.zero,i.size,i.bytes))=some (some (.agg (QGn m v).toArray),m,bytes)) (hm:0<m) (kl kc:IntKind) (C:Int) (n:Nat) (hl:a.eval l= .int kl 0) (hc:a.eval c= .int kc C) (hC:C=(n:Int))
 (hby:0<bytes) (hsz:n*bytes≤140737488355328) (h:∀w',Blk w' w.heap.size e (QGn (n*m) v)→Later w w'→wpList P ops Q rest (a.put o.dst (.slice (some ⟨w.heap.size,0,none⟩) 0 n)) w'):
 wpList P ops Q (o :: rest) a w:=by
 cases hq:P.info? e with
 | none=>simp[hq]at hinfo
 | some i=>
   simp only[hq,QH9,Option.some.injEq,Prod.mk.injEq]at hinfo
   obtain⟨hz,hsize,hbytes⟩:=hinfo
   have hn:n≤140737488355328:=QG9 (QHE _ hby) hsz
   refine wpList_plain hgd fun K hK=>?_
   have hb:((i.bytes:Int)*(n:Int))≤281474976710656:=by
    rw[hbytes,←QIi,QHp]
    omega
   have hr:=run_make (P:=P) w t e i _ ht hq hz kl kc 0 n (by omega) (by omega) hb (by omega)
   have hcells:(Value.agg (QGn m v).toArray).cells=(QGn m v).toArray:=rfl
   simp only[QIq,Int.toNat_zero,hsize,hcells,Qp8 m _ v hm]at hr
   subst hC
   unfold Oper.wp
   simp only[execOp,ho,hl,hc,Sem.run_bind,hr,Result.andThen_ok,Sem.run_pure]
   exact hK _ _ (h _ (Blk.new w e _) (Qaa _ _))
end
theorem QkL {x:List UInt8} {ps:List (List UInt8)} (h: ¬fitS x ps):Qdg x ps=2:=by rw[Qdg,if_neg h]
theorem Qkt {x:List UInt8} {ps:List (List UInt8)} (h:fitS x ps):Qdg x ps=goE x ps ps.length 0:=by rw[Qdg,if_pos h]
theorem QvZ:(Tryz.prog.info? 53).map (fun i=>(i.zero,i.size,i.bytes))=some (some (.agg (QGn 192 (W8 0)).toArray),192,192):=by kernel_rfl
theorem QtW:(Tryz.prog.info? 53).map (fun i=>(i.zero,i.size))=some (some (.agg (QGn 192 (W8 0)).toArray),192):=by kernel_rfl
theorem Qpp {w:World} {base sz:Nat} {e:TypeId} {v:Value} {n:Nat} {vs:List Value} (h:w.ownsRow base e sz v n vs):∀b,v.ownBlock=some b→b<w.heap.size:=fun b hb=>(h.lt b hb).2
theorem QrI:(30:TypeId)≠53:=by decide
theorem ne8S:(5:TypeId)≠53:=by decide
theorem neLS:(22:TypeId)≠53:=by decide
set_option maxRecDepth 100000 in
set_option maxHeartbeats 8000000 in
theorem Qj7 (A B:Option Addr) (n c m d:Nat) (x:List UInt8) (ps:List (List UInt8)) (w:World) (hx:RdB w A n x) (hc:n≤c) (hp:Parts w (fun _=>False) B m ps) (hm:m≤140737488355328):
 Calls Tryz.prog 15 #[.slice A n c,.slice B m d] w fun e w'=>Later w w'∧((Qdg x ps≠0∧e= .returned (.tuple #[.slice none 0 0,.int .i64 (Qdg x ps:Nat)]))∨
  (Qdg x ps=0∧∃A' c',e= .returned (.tuple #[.slice A' m c',.int .i64 0])∧m≤c'∧RdK 192 w' A' m (QcD x ps m)∧∀b o,A'=some ⟨b,o,none⟩→w.heap.size≤b)):=by
 have hxl:=hx.len
 have hpsl:=hp.len
 by_cases hok:n=32∧1≤m∧m≤5
 ·obtain⟨rfl,hm1,hm5⟩:=hok
  have k1:decide ((m:Int)<1)=false:=decide_eq_false (by omega)
  have k2:decide ((5:Int)<(m:Int))=false:=decide_eq_false (by omega)
  have hF:=hid (fun (h:∀p∈ps,p.length=32)=>Qkt (x:=x) (ps:=ps) ⟨hxl,by omega,by omega,h⟩)
  have hB:=hid (fun (h: ¬ ∀p∈ps,p.length=32)=>QkL (x:=x) (ps:=ps) (fun f=>h f.2.2.2))
  have hbadk:=hid (fun k (h:k<ps.length) (hk:(ps.getD k []).length≠32) (ha:∀p∈ps,p.length=32)=>hk (ha _ (Qd8 ps k h)))
  have hPub:=hid (fun (w:World) h=>Qrr A 32 c x w h (by omega))
  rw[QzK x hxl]at hPub
  have h0l:=QaY x (nb 9)
  have hst0:Hid ((stA x ps 0).1=QbB x (nb 9)∧(stA x ps 0).2=[x]):=hid ⟨rfl,rfl⟩
  generalize Qdg x ps=E0 at *
  generalize QbB x (nb 9)=al0 at *
  go_enter Tryz.func15,Tryz.ntmps15
  go_wp2_with fail
  go_loopw [33] (fun i wr=>∃k:Nat,k≤m∧i= .int .i64 k∧Hid (∀ j,j<k→(ps.getD j []).length=32)∧Later w wr) (fun i _=>m-(intOf i).toNat)
  case atStart=>exact⟨0,by omega,rfl,hid (fun j h=>by omega),Later.refl w⟩
  case round=>
   obtain⟨k,hk,rfl,hall,L⟩:=hrel
   by_cases hlt:k<m
   ·obtain⟨b,o,Ak,nk,ck,rfl,hb,hck,hcap,hrd,_⟩:=(hp.later L).at_ hlt
    have hlen:=hrd.len
    have hb2:=hid (fun h=>hB.out (hbadk.out k (by omega) h))
    rw[hlen]at hb2
    have hstep:Hid (nk=32→∀j,j<k+1→(ps.getD j []).length=32):=hid (fun h j hj=>by
     by_cases e:j=k
     ·rw[e,hlen,h]
     ·exact hall.out j (by omega))
    clear hrd hlen
    by_cases h32:nk=32
    ·have hne:((nk:Int) != 32)=false:=by simp;omega
     go_wp2_with fail
     go_roundw
     case rel=>exact⟨k+1,by omega,by go_num,hid (hstep.out h32),L⟩
     case measure=>simp[intOf];omega
    ·have hne:((nk:Int) != 32)=true:=by simp;omega
     go_wp2_with fail
     go_ret2
     exact⟨L,.inl (by rw[hb2.out h32];exact⟨by decide,rfl⟩)⟩
   ·have hall':=Qq9 ps (fun j hj=>hall.out j (by omega))
    have hE:=hF.out hall'
    have HE:=hid hE
    have HA:=hid hall'
    clear hF hB hbadk hall hall' hE
    go_wp2_with fail
    (with_reducible refine (hPub.out _ (hx.later L)).mono ?_);rintro e w1 ⟨rfl,j1⟩
    go_wp2_with (first
     | (refine QaO rfl rfl _ _ rfl (Blk.new w1 _ (QGn 32 (.int .u8 0))) rfl rfl h0l rfl ?_;intro w2 hb2 ho2)
     | (refine Qik rfl _ _ _ rfl 53 (W8 0) 192 192 Tryz.underlying45 QvZ (by omega) _ _ _ m rfl rfl rfl (by omega) (by omega) ?_;intro w3 hb3 hl3)
     | fail)
    have L1:=L.trans j1
    have hg8:w.heap.size≤w1.heap.size:=L1.size
    have L2:=(L1.trans (Qaa w1 (.cells (QGn 32 (Value.int .u8 0)).toArray 30))).only ho2 hg8
    have L3:=L2.trans hl3
    have hrow:=Qdl (Qw0 hb3 L2.size (by rw[QGA]) (by unfold maxLen;omega)) (Qaa w3 (.cells #[.slice A 32 c] 22))
    have hal:=(hb2.later hl3).later (Qaa w3 (.cells #[.slice A 32 c] 22))
    have L4:=L3.trans (Qaa w3 (.cells #[.slice A 32 c] 22))
    have hsc:ScRow w w1.heap.size (w3.alloc (.cells #[.slice A 32 c] 22)) (.slice (some ⟨w3.heap.size,0,none⟩) 1 1) [x] [.slice A 32 c]:=
     ⟨Qcq (Qvl w3 22 [.slice A 32 c] (by simp)) L3.size,rfl,fun j u p hu hp=>by
       have hj:j=0:=by have:=(QGL.1 hu).1;simpa using this
       subst hj
       cases hu
       cases hp
       exact .inl ⟨A,c,rfl,hc,hx⟩⟩
    clear hb2 ho2 hb3 hl3 j1 L1 L2 L3 L hPub
    generalize w3.alloc _=w4 at *
    generalize w1.heap.size=g8 at *
    go_loopw [10,11,56] (fun v u i wr=>∃(k:Nat) (vs:List Value),k≤m∧i= .int .i64 k∧wr.ownsRow w.heap.size 53 192 v k ((QcD x ps k).flatten.map W8)∧ScRow w g8 wr u (stA x ps k).2 vs∧Blk wr g8 30 ((stA x ps k).1.map W8)∧Later w wr∧Hid (E0=goE x ps (m-k) k)) (fun _ _ i _=>m-(intOf i).toNat)
    case atStart=>exact⟨0,_,by omega,rfl,hrow,hsc,by rw[hst0.out.1];exact hal,L4,hid (by rw[HE.out,hpsl];rfl)⟩
    case round=>
     clear hrow hsc hal L4
     obtain⟨k,vs,hk,rfl,hrow,hsc,hal,L,HG⟩:=hrel
     by_cases hlt:k<m
     ·obtain⟨b,o,Ak,nk,ck,rfl,hb,hck,hcap,hrd,_⟩:=(hp.later L).at_ hlt
      have hlen:=hrd.len
      obtain rfl:nk=32:=by rw[←hlen];exact HA.out _ (Qd8 ps k (by omega))
      have hscl:(stA x ps k).2.length=k+1:=Qgs x ps k
      have hsc32:=hid (Qgc x hxl ps k)
      have hall:=QeH x ps k
      have cC:Hid (∀ (w:World) B d,RdB w Ak 32 (ps.getD k [])→Parts w (fun _=>False) B (k+1) (stA x ps k).2→
       Calls Tryz.prog 57 #[.slice Ak 32 ck,.slice B (k+1) d] w fun e w'=>e= .returned (.tuple #[.agg ((secA x ps k).map W8).toArray,.int .i64 (errA x ps k:Nat)])∧Later w w'):=
       hid (fun w B d h1 h2=>Quv Ak B 32 ck (k+1) d (ps.getD k []) (stA x ps k).2 w h1 h2 (by omega) (by omega))
      have hsl:=QjZ x ps k
      have hTl:=QcE x ps k
      have F1:=hid (show Qcz x ps k=k4 (secA x ps k)++((stA x ps k).1++secA x ps k) from rfl)
      have F2:=hid (show (stA x ps (k+1)).1=QbB (derB (secA x ps k) Qcw) (stA x ps k).1 from rfl)
      have F3:=hid (show (stA x ps (k+1)).2=(stA x ps k).2++[derB (secA x ps k) Qcw] from rfl)
      have F4:=QiU x ps k
      have F5:=Qfs x ps k
      have F6:=QqW x hxl ps k (derB (secA x ps k) Qcw) (QaK _ _)
      have F7:=hid (QoA x ps k)
      have F8:=hid (show errA x ps k=0→E0=goE x ps (m-(k+1)) (k+1) by
       intro h
       have:=HG.out
       rw[show m-k=(m-(k+1))+1 by omega,goE,if_pos h]at this
       exact this)
      have F9:=hid (show errA x ps k≠0→E0=errA x ps k by
       intro h
       have:=HG.out
       rw[show m-k=(m-(k+1))+1 by omega,goE,if_neg h]at this
       exact this)
      have hbl:=QaK (secA x ps k) Qcw
      obtain⟨B1,d1,hu,hd1⟩:=Qhr hsc.own
      rw[hscl]at hu hd1
      subst hu
      have hdone:=hid (Qhz x ps (k+1))
      clear HG hlen
      generalize Qcz x ps k=T at *
      generalize derB (secA x ps k) Qcw=bl at *
      generalize hS:secA x ps k=S at *
      generalize errA x ps k=e1 at *
      generalize (stA x ps k).1=al at *
      generalize (stA x ps k).2=sc at *
      generalize ps.getD k []=p at *
      by_cases he:e1=0
      ·subst he
       have G1:=F8.out rfl
       have hSt:=hid (fun w=>Qkz al S hall hsl w)
       rw[←F1.out]at hSt
       have hNx:=hid (fun w=>Qqb T bl al hTl F4 F5 w)
       rw[F6]at hNx
       have hNl:=QaY bl al
       rw[←F2.out]at hNx hNl
       clear F1 F2 F6 F8 F9 hS
       generalize ha2:(stA x ps (k+1)).1=al2 at *
       have HA2:=hid ha2
       clear ha2
       have hzc:=QBh
       have H4:=hid F4
       have HG1:=hid G1
       clear F4 F5 G1
       go_wp2_with fail
       (with_reducible refine (cC.out _ B1 d1 hrd (hsc.parts hscl L)).mono ?_);rintro e w5 ⟨rfl,j5⟩
       go_wp2_with (first
        | (refine QaO rfl rfl _ _ rfl (Blk.new w5 _ (QGn 32 (.int .u8 0))) rfl rfl hsl rfl ?_;intro w6 hb6 ho6
           have J6:=(j5.trans (Qaa w5 (.cells (QGn 32 (Value.int .u8 0)).toArray 30))).only ho6 j5.size
           have hal6:=hal.later J6)
        | (refine Qft rfl _ rfl hal6 hall rfl ?_)
        | (refine Qft rfl _ rfl hb6 hsl rfl ?_)
        | fail)
       (with_reducible refine (hSt.out _).mono ?_);rintro e w7 ⟨rfl,j7⟩
       have hgr:∀b,u10.ownBlock=some b→b<w7.heap.size:=fun b hb=>QGN (Qpp hrow b hb) (J6.trans j7).size
       have hcase:(((k:Int)+1==(m:Int))=true∧k+1=m)∨(((k:Int)+1==(m:Int))=false∧k+1<m):=by
        simp only[beq_iff_eq,beq_eq_false_iff_ne,ne_eq]
        omega
       rcases hcase with ⟨kl,hlast⟩|⟨kl,hlast⟩
       ·go_wp2_with (first
         | (refine Qfn rfl rfl _ _ rfl (Blk.new w7 _ Tryz.zeroCells53.toList) rfl rfl hTl hzc ?_;intro w8 hb8 ho8
            have J8:=(J6.trans j7).trans ((Qaa w7 (.cells Tryz.zeroCells53 53)).only ho8 (QGx _))
            have J8':=J8.trans (Qaa w8 (.cells (T.map W8).toArray 53)))
         | (refine QfU rfl _ rfl hb8 hTl rfl ?_)
         | (refine Qmu rfl 45 _ rfl 53 192 _ T Tryz.underlying45 QtW (by omega) (by omega) hTl rfl ?_)
         | (refine Qed rfl _ _ _ rfl 53 _ 192 192 Tryz.underlying45 QvZ rfl (by omega) w _ k _ (Qdl hrow J8') (L.trans J8') w8.heap.size 1 1 53 (T.map W8) (Blk.new _ _ _) (by rw[QGr,hTl]) (QaX T) rfl rfl (by omega) (by omega) ?_;intro v9 w9 hown9 hl9 hg9
            have hT9:Blk w9 w7.heap.size 53 (T.map W8):=by
             have h8:=hb8.later (Qaa w8 (.cells (T.map W8).toArray 53))
             refine (hg9.block _ h8.lt ?_).trans h8
             intro e
             exact absurd (hgr _ e.symm) (Nat.lt_irrefl _))
         | (refine QfU rfl _ rfl hT9 hTl rfl ?_)
         | fail)
        have hrow8:=Qdl hrow J8'
        have hsc9:=(hsc.later J8').grown hrow8 neLS QrI ne8S hg9
        have hal9:=Qdi (hal.later J8') hrow8 QrI hg9
        have hg8:w.heap.size≤g8∨True:=.inr trivial
        clear hrow hsc hal hb8 ho8 J8 J8' hg9 hrow8 hg8 hgr J6 hal6 hb6 ho6 j5 j7 L
        rw[←F7.out]at hown9
        obtain⟨A9,c9,rfl,hc9⟩:=Qhr hown9
        have hrd9:=Qwc hown9 (QgR x ps (k+1)) hdone.out
        have hE0:E0=0:=by rw[HG1.out,hlast,QHG];rfl
        rw[hlast]at hrd9 hc9
        go_ret2
        exact⟨hl9,.inr ⟨hE0,A9,c9,by rw[hlast];rfl,hc9,hrd9,fun b o e=>by subst e;exact (hown9.lt b rfl).1⟩⟩
       ·go_wp2_with (first
         | (refine Qfn rfl rfl _ _ rfl (Blk.new w7 _ Tryz.zeroCells53.toList) rfl rfl hTl hzc ?_;intro w8 hb8 ho8
            have J8:=(J6.trans j7).trans ((Qaa w7 (.cells Tryz.zeroCells53 53)).only ho8 (QGx _))
            have J8':=J8.trans (Qaa w8 (.cells (T.map W8).toArray 53)))
         | (refine QfU rfl _ rfl hb8 hTl rfl ?_)
         | (refine Qmu rfl 45 _ rfl 53 192 _ T Tryz.underlying45 QtW (by omega) (by omega) hTl rfl ?_)
         | (refine Qed rfl _ _ _ rfl 53 _ 192 192 Tryz.underlying45 QvZ rfl (by omega) w _ k _ (Qdl hrow J8') (L.trans J8') w8.heap.size 1 1 53 (T.map W8) (Blk.new _ _ _) (by rw[QGr,hTl]) (QaX T) rfl rfl (by omega) (by omega) ?_;intro v9 w9 hown9 hl9 hg9
            have hT9:Blk w9 w7.heap.size 53 (T.map W8):=by
             have h8:=hb8.later (Qaa w8 (.cells (T.map W8).toArray 53))
             refine (hg9.block _ h8.lt ?_).trans h8
             intro e
             exact absurd (hgr _ e.symm) (Nat.lt_irrefl _))
         | (refine QfU rfl _ rfl hT9 hTl rfl ?_)
         | fail)
        have hrow8:=Qdl hrow J8'
        have hsc9:=(hsc.later J8').grown hrow8 neLS QrI ne8S hg9
        have hal9:=Qdi (hal.later J8') hrow8 QrI hg9
        have hg8:w.heap.size≤g8∨True:=.inr trivial
        clear hrow hsc hal hb8 ho8 J8 J8' hg9 hrow8 hg8 hgr J6 hal6 hb6 ho6 j5 j7 L
        rw[←F7.out]at hown9
        (with_reducible refine (hNx.out _).mono ?_);rintro e w10 ⟨rfl,j10⟩
        have hT10:=hT9.later j10
        have hal10:=hal9.later j10
        have hsc10:=hsc9.later j10
        have hrow10:=Qdl hown9 j10
        have L10:=hl9.trans j10
        have hne:w7.heap.size≠g8:=hT10.ne_type hal10 (fun e=>QrI e.symm)
        clear hT9 hal9 hsc9 hown9 hl9 j10 hSt hNx cC
        go_wp2_with (first
         | (refine QaO rfl rfl _ _ rfl hal10 rfl rfl hNl (by rw[QGr,hall]) ?_;intro w11 hb11 ho11
            have hT11:=hT10.only ho11 hne)
         | (refine QqD 96 32 rfl _ rfl hT11 rfl Tryz.underlying30 rfl QfJ H4.out hbl ?_)
         | (refine QaO rfl rfl _ _ rfl (Blk.new w11 _ (QGn 32 (.int .u8 0))) rfl rfl hbl rfl ?_;intro w12 hb12 ho12
            have hsc11:=hsc10.only hal10 ho11
            have hrow11:=QaV hrow10 hal10 QrI ho11
            have L11:=L10.only ho11 hg8
            have J12:Later w11 (w12.alloc (.cells #[.slice (some ⟨w11.heap.size,0,none⟩) 32 32] 22)):=((Qaa w11 (.cells (QGn 32 (Value.int .u8 0)).toArray 30)).only ho12 (QGx _)).trans (Qaa _ _)
            have hsc12:=hsc11.later J12
            have hrow12:=Qdl hrow11 J12
            have hal12:=hb11.later J12
            have hbl12:=hb12.later (Qaa w12 (.cells #[.slice (some ⟨w11.heap.size,0,none⟩) 32 32] 22))
            have L12:=L11.trans J12
            have hsco:=hsc12.own
            rw[hscl]at hsco)
         | (refine Qed rfl _ _ _ rfl 22 _ 1 24 Tryz.underlying48 Qt3 rfl (by omega) w _ (k+1) vs hsco L12 w12.heap.size 1 1 22 [.slice (some ⟨w11.heap.size,0,none⟩) 32 32] (Blk.new _ _ _) rfl (by intro u hu;rw[QHO.1 hu];rfl) rfl rfl (by omega) (by omega) ?_;intro v13 w13 hown13 hl13 hg13)
         | fail)
        have hsc13:=hsc12.snoc (p:=bl) (.inr (.inl ⟨w11.heap.size,rfl,by have:=hb11.lt;omega,hbl,hbl12⟩)) hg13 (by rw[hscl];exact hown13)
        rw[←F3.out]at hsc13
        have hrow13:=QcI hrow12 hsco (fun e=>neLS e.symm) hg13
        have hal13:=Qdi hal12 hsco Qx9 hg13
        go_roundw
        case rel=>exact⟨k+1,_,by omega,by go_num,hrow13,hsc13,by rw[HA2.out];exact hal13,hl13,HG1⟩
        case measure=>simp[intOf];omega
      ·have hE0:=F9.out he
       have hne:((e1:Int) != 0)=true:=by simp;omega
       go_wp2_with fail
       (with_reducible refine (cC.out _ B1 d1 hrd (hsc.parts hscl L)).mono ?_);rintro e w5 ⟨rfl,j5⟩
       go_wp2_with (first
        | (refine QaO rfl rfl _ _ rfl (Blk.new w5 _ (QGn 32 (.int .u8 0))) rfl rfl hsl rfl ?_;intro w6 hb6 ho6)
        | fail)
       go_ret2
       exact⟨(L.trans (j5.trans (Qaa w5 _))).only ho6 (L.trans j5).size,.inl ⟨by rw[hE0];exact he,by rw[hE0];rfl⟩⟩
     ·have hkm:k=m:=by omega
      subst hkm
      have hE0:E0=0:=by rw[HG.out,QHG];rfl
      obtain⟨A9,c9,rfl,hc9⟩:=Qhr hrow
      have hrd9:=Qwc hrow (QgR x ps k) (Qhz x ps k)
      go_wp2_with fail
      go_ret2
      exact⟨L,.inr ⟨hE0,A9,c9,rfl,hc9,hrd9,fun b o e=>by subst e;exact (hrow.lt b rfl).1⟩⟩
 ·have hE:=QkL (x:=x) (ps:=ps) (fun f=>hok ⟨by have:=f.1;omega,by have:=f.2.1;omega,by have:=f.2.2.1;omega⟩)
  rw[hE]
  clear hE
  have key:((n:Int) != 32)=true∨(((n:Int) != 32)=false∧decide ((m:Int)<1)=true)∨(((n:Int) != 32)=false∧decide ((m:Int)<1)=false∧decide ((5:Int)<(m:Int))=true):=by
   simp only[bne_iff_ne,bne_eq_false_iff_eq,ne_eq,decide_eq_true_eq,decide_eq_false_iff_not]
   omega
  rcases key with h1|⟨h1,h2⟩|⟨h1,h2,h3⟩
  all_goals
   go_enter Tryz.func15,Tryz.ntmps15
   go_wp2_with fail
   go_ret2
   exact⟨Later.refl w,.inl ⟨by decide,rfl⟩⟩
theorem Qlq (A B:Option Addr) (n c m d:Nat) (x:List UInt8) (ps:List (List UInt8)) (w:World) (hx:RdB w A n x) (hc:n≤c) (hp:Parts w (fun _=>False) B m ps) (hm:m≤140737488355328):
 Calls Tryz.prog 15 #[.slice A n c,.slice B m d] w fun e w'=>Later w w'∧((Qdg x ps≠0∧e= .returned (.tuple #[.slice none 0 0,.int .i64 (Qdg x ps:Nat)]))∨
  (Qdg x ps=0∧∃A' c',e= .returned (.tuple #[.slice A' m c',.int .i64 0])∧m≤c'∧RdK 192 w' A' m (QcD x ps m))):=
 (Qj7 A B n c m d x ps w hx hc hp hm).mono fun _ _ h=>⟨h.1,h.2.imp id fun h=>⟨h.1,by obtain⟨A',c',e,h1,h2,_⟩:=h.2;exact⟨A',c',e,h1,h2⟩⟩⟩
end Go.Proofs.YtdhgpkdjdmlphaaGreat
