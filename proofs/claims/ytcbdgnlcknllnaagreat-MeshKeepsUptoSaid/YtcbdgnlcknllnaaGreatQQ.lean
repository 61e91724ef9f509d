/-
  Lemmas for the last text of this claim (part 17 of 20).
-/
import Derived.ArgAppend
import Derived.BigQuiet
import Derived.BigRegion
import Derived.ChangeOld
import Derived.Deep.RegionWith
import Derived.DeepKeys4
import Derived.JoinedCond
import Derived.LaidMore
import Derived.Laws.CopyOwn
import Derived.Laws.Externs
import Derived.Laws.IdiomStrings
import Derived.Laws.Tables
import Derived.Lib.AppendStr
import Derived.Lib.AppendZerosOnto
import Derived.Lib.Mul64
import Derived.Lib.SlBytesConst
import Derived.LoopN
import Derived.Maps.OwnSet
import Derived.OpenShut
import Derived.OrdersHeld
import Derived.ProofKit
import Derived.Shelf.Spec.BitsCarry
import Derived.ShutString
import Derived.Test.YtcbdgnlcknllnaaGreatProg
import Derived.Test.YtcbdgnlcknllnaaGreatRows
import Derived.WalkKit
import Derived.WalkLawsBesides
import Derived.WalkSpells
import Derived.Test.YtcbdgnlcknllnaaGreatQC
import Derived.Test.YtcbdgnlcknllnaaGreatQF
import Derived.Test.YtcbdgnlcknllnaaGreatQH
import Derived.Test.YtcbdgnlcknllnaaGreatQJ
import Derived.Test.YtcbdgnlcknllnaaGreatQL
import Derived.Test.YtcbdgnlcknllnaaGreatQO
import Derived.Test.YtcbdgnlcknllnaaGreatQP
open List renaming replicate → Qyl, getElem?_cons_succ → Qym, getElem?_cons_zero → Qyn, length_map → Qyo, getElem?_eq_getElem → Qyq, nil_append → Qyr, cons_append → Qys, getD_eq_getElem?_getD → Qyt, setIfInBounds_toArray → Qyu, map_toArray → Qyw, set_cons_zero → Qyx, set_cons_succ → Qyy, length_append → Qyz, take_of_length_le → QyA, getElem?_eq_some_iff → QyB, getElem?_append_right → QyC, map_nil → QyD, getElem?_map → QyF, getElem?_append_left → QyG, mem_cons → QyI, map_cons → QyJ, append_assoc → QyK, length_replicate → QyO, length_drop → QyQ, take_succ_eq_append_getElem → QyR, length_take → QyW, set_append_right → Qy3, map_replicate → Qy5, mem_append → Qy8, take_append_drop → Qy9, take_append_of_le_length → Qza, drop_append_of_le_length → Qzc, map_take → Qzp, mem_singleton → QzI, take_zero → QzK, drop_eq_nil_of_le → QzV, drop_append → QAi
open Nat renaming le_refl → Qyv, zero_add → QyE, lt_of_lt_of_le → QyL, mod_eq_of_lt → QyS, le_trans → QyX, add_sub_cancel_left → QzQ
open Option renaming toList_some → Qyp, map_some → Qzz
open UInt64 renaming ofNat → QyM, toNat_ofNat' → QyP
set_option linter.all false
namespace Go.Proofs.YtcbdgnlcknllnaaGreat
open Go.RowKit
open Go.BigFrame
def QcM (b:List UInt8):Nat:=beN (subB b 28 2) 0
def QjV (b:List UInt8):Prt:=⟨b.getD 16 0,QyM (beN (subB b 20 8) 0),((b.getD 17 0).toNat:Int),((b.getD 18 0).toNat:Int),subB b 30 (QcM b)⟩
def parE (b:List UInt8):Nat:=
 if b.length≠480 then 2 else if b.take 16≠Qyl 16 0 then 7 else if b.getD 16 0<1∨3<b.getD 16 0 then 1
 else if b.getD 19 0≠0∨450<QcM b then 3 else if prtE (QjV b)≠0∨b.drop (30+QcM b)≠Qyl (450-QcM b) 0 then 3 else 0
def parP (b:List UInt8):Prt:=if parE b=0 then QjV b else prt0
theorem Qqv (b:List UInt8) (h:b.length=768):putB (b.take 288++Qyl 480 0) 288 ((b.drop 288).take 480)=b:=by
 rw[QdY _ _ _ 288 (by rw[QyW];omega) (by rw[QyO,QyW,QyQ];omega),QyA (l:=b.drop 288) (by rw[QyQ];omega),Qy9]
set_option maxRecDepth 100000 in
set_option maxHeartbeats 4000000 in
theorem QmV (A:Option Addr) (c:Nat) (b:List UInt8) (w:World) (hb:RdB w A 768 b) (hc:768≤c):
 Calls Tryz.prog 30 #[.slice A 768 c] w fun e w'=>e= .returned (.tuple #[.agg (b.map W8).toArray,.int .i64 0])∧Later w w':=by
 have hbl:=hb.len
 obtain⟨b0,p,rfl,hb00,_⟩:=hb.2 (by omega)
 have HZ:=hid zcP
 have HH:=hid zcH
 have B0:Bag w (w.alloc (.cells Tryz.zeroCells100 100)) [(w.heap.size,100,(Qyl 768 (0:UInt8)).map W8)]:=(Bag.none w).add (Qaa _ _) (by simp) (Qyv _) ((Blk.new w _ Tryz.zeroCells100.toList).cast zcP)
 have l0:((Qyl 768 (0:UInt8)).map W8).length=768:=by rw[Qyo,QyO]
 have lh:((Qyl 288 (0:UInt8)).map W8).length=288:=by rw[Qyo,QyO]
 have hhl:(b.take 288).length=288:=by rw[QyW];omega
 have hH:=hid (fun (w:World) h=>Ql5 (some ⟨b0,p,none⟩) c (b.take 288) w h (by omega))
 have hp1:=Qmh (b.take 288) hhl
 have hp1l:(b.take 288++Qyl 480 (0:UInt8)).length=768:=by rw[Qyz,hhl,QyO]
 have hput:=hid (Qqv b hbl)
 have h288:Hid (∀ w,RdB w (some ⟨b0,p,none⟩) 768 b→RdB w (some ⟨b0,p+288,none⟩) 480 (b.drop 288)):=hid (fun w h=>by
  have:=RdB.cut h (k:=288) (c:=769) (by omega) (by omega)
  rw[show cutA (some ⟨b0,p,none⟩) 288 769=some ⟨b0,p+288,none⟩ by rw[cutA,if_neg (by omega)];rfl]at this
  exact this)
 have hcc:cutA (some ⟨b0,p,none⟩) 288 c=some ⟨b0,p+288,none⟩:=by rw[cutA,if_neg (by omega)];rfl
 have HT:Hid (∀ w,RdB w (some ⟨b0,p,none⟩) 768 b→RdB w (some ⟨b0,p,none⟩) 288 (b.take 288)):=hid (fun w h=>RdB.take h (by omega))
 generalize Qyl 768 (0:UInt8)=Z at *
 generalize Qyl 288 (0:UInt8)=ZH at *
 generalize b.take 288++Qyl 480 (0:UInt8)=P1 at *
 generalize b.take 288=hd at *
 go_enter Tryz.func30,Tryz.ntmps30
 go_wp2_with fail
 generalize hW:w.alloc _=w1
 replace B0:Bag w w1 [(w.heap.size,100,Z.map W8)]:=by rw[←hW];exact B0
 clear hW
 (with_reducible refine (hH.out _ (HT.out _ (hb.later B0.lat))).mono ?_);rintro e w2 ⟨rfl,l2⟩
 replace B0:=B0.later l2
 go_wp2_with (first
  | (refine Qdu rfl rfl _ _ rfl ((Blk.new w2 _ Tryz.zeroCells97.toList).cast HH.out) rfl rfl hhl lh ?_;intro w3 hb3 ho3
     have B1:=B0.push (Qaa _ _) (Qyv _) ho3 hb3)
  | (refine Qlz rfl _ rfl (B1.nth 0 rfl) hhl rfl ?_)
  | (refine Qah rfl 100 _ rfl (P1.map W8) (by simp only[Qyw,QyJ,QyD];exact hp1) ?_)
  | (refine QeT rfl rfl _ _ rfl ((Blk.new w3 _ Tryz.zeroCells100.toList).cast HZ.out) rfl rfl hp1l l0 ?_;intro w4 hb4 ho4
     have B2:=B1.push (Qaa _ _) (Qyv _) ho4 hb4)
  | fail)
 have B3:=B2.drew
 have hlb:b0<w4.drew.heap.size:=QyL hb00 B3.lat.size
 refine Qad [] [0,1,2,3] [4] (by as_aux_lemma=>kernel_rfl) (by as_aux_lemma=>kernel_rfl) (by intro _ _ d _ _ h;cases d<;>exact h) ?_
 simp only[Qaj,pick,Qym,Qyn,Qyp,Qys,Qyr]
 repeat (go_big_quiet_step (fail))
 refine wpQuiet_nil ?_
 go_wp2_with (first
  | (refine Qaq rfl _ _ _ _ rfl 5 Tryz.underlying25 Qbo w3.heap.size 288 480 480 _ _ (B3.nth 0 rfl) (some ⟨b0,p+288,none⟩) 480 (c-288) ((b.drop 288).map W8) (h288.out _ (hb.later B3.lat)) (QaC _) rfl rfl (by rw[Qyo];omega) ?_;intro w5 hb5 ho5;rw[←Qzp,Qcb,hput.out]at hb5
     have B4:=B3.write 0 rfl ho5 hb5)
  | (refine Qp1 rfl _ rfl (B4.nth 0 rfl) hbl rfl ?_)
  | (refine QeT rfl rfl _ _ rfl (B4.nth 2 rfl) rfl rfl hbl l0 ?_;intro w6 hb6 ho6)
  | fail)
 exact bodyPost_ret (Qaf rfl _ _ _ _ _ _ hb6 rfl Tryz.underlying100 rfl (by rw[Qyo,hbl];exact Qfj)) rfl ⟨rfl,(B4.write 2 rfl ho6 hb6).lat⟩
theorem Qic:(Tryz.prog.info? 55).map (·.size)=some 20:=by kernel_rfl
theorem Qxc:(Tryz.prog.info? 55).bind (·.zero)=some (.agg (CC cmd0).toArray):=by kernel_rfl
theorem Qmt (c:Cmd):Tryz.prog.built 55 [(0,.agg (CC c).toArray)]=some (CC c).toArray:=by
 rw[QaN (pl:=[(0,20)]) Tryz.underlying55 Qxc (by kernel_rfl),QaH (vs:=CC c) (off:=0) rfl (by rw[Qao];rfl) (by rw[Qao,Qao];omega),Qbs,Qap _ _ (by rw[Qao,Qao])]
def PC (c:Cmd) (P:List UInt8) (v:Value):List Value:=CC c++(P.map W8++[v])
def nil8:Value:=.slice none 0 0
def z768:List UInt8:=Qyl 768 0
theorem Qaz:z768.length=768:=QyO
theorem Qbf (c:Cmd) {P:List UInt8} (h:P.length=768) (v:Value):(PC c P v).length=789:=by
 rw[PC,Qyz,Qyz,Qao,Qyo,h]
 rfl
theorem QvJ (c:Cmd) (P:List UInt8) {v:Value} (h:v.oneCell'=true):∀u∈PC c P v,u.oneCell'=true:=by
 intro u hu
 rw[PC]at hu
 rcases Qy8.1 hu with hu|hu
 ·exact QsE c u hu
 ·rcases Qy8.1 hu with hu|hu
  ·exact QaC P u hu
  ·rw[QzI.1 hu];exact h
theorem Qeq:(Tryz.prog.info? 110).map (·.size)=some 789:=by kernel_rfl
theorem Qsg:(Tryz.prog.info? 110).bind (·.zero)=some (.agg (PC cmd0 z768 nil8).toArray):=by
 rw[PC,z768,Qy5]
 kernel_rfl
theorem zcPe:Tryz.zeroCells110.toList=PC cmd0 z768 nil8:=by
 rw[PC,z768,Qy5]
 kernel_rfl
theorem Qjh:Tryz.prog.built 110 []=some (PC cmd0 z768 nil8).toArray:=by
 rw[QaN (pl:=[(0,20),(20,768),(788,1)]) Tryz.underlying110 Qsg (by kernel_rfl),Qbs]
theorem QoA {A B vs:List Value} (h:vs.length=A.length):Qan (A++B) 0 vs=vs++B:=by
 rw[Qan,QzK,Qyr,QyE,h,List.drop_left]
theorem QnM (c:Cmd):Tryz.prog.built 110 [(0,.agg (CC c).toArray)]=some (PC c z768 nil8).toArray:=by
 rw[QaN (pl:=[(0,20),(20,768),(788,1)]) Tryz.underlying110 Qsg (by kernel_rfl),QaH (vs:=CC c) (off:=0) rfl (by rw[Qao];rfl) (by rw[Qao,Qbf _ Qaz];omega),Qbs,PC,PC,QoA (by rw[Qao,Qao])]
theorem QiS (c:Cmd) (P:List UInt8) (v:Value):∀j u,(CC c)[j]?=some u→(PC c P v)[0+j]?=some u:=fun j u h=>by
 rw[QyE,PC,QyG (QyB.1 h).1]
 exact h
theorem Qvp (c:Cmd) (P:List UInt8) (v:Value):∀j u,(P.map W8)[j]?=some u→(PC c P v)[20+j]?=some u:=fun j u h=>by
 rw[PC,QyC (by rw[Qao];omega),Qao,QzQ,QyG (QyB.1 h).1]
 exact h
theorem Qui (c:Cmd) {P:List UInt8} (h:P.length=768) (v:Value):(PC c P v)[788]?=some v:=by
 rw[PC,QyC (by rw[Qao];omega),Qao,QyC (by rw[Qyo,h];omega),Qyo,h]
 rfl
theorem QtP (c:Cmd) {P:List UInt8} (h:P.length=768) (v v':Value):(PC c P v).set 788 v'=PC c P v':=by
 rw[PC,Qy3 _ _ (by rw[Qao];omega),Qao,Qy3 _ _ (by rw[Qyo,h];omega),Qyo,h]
 rfl
theorem Qpl (c:Cmd) {P vs:List UInt8} (v:Value) (k:Nat) (h:k+vs.length≤P.length):Qan (PC c P v) (20+k) (vs.map W8)=PC c (putB P k vs) v:=by
 have hc:=Qao c
 rw[PC,PC,←Qcb,Qan,Qan,List.take_append,hc,QyA (by omega),QzQ,Qza (by rw[Qyo];omega),QAi,hc,QzV (by omega),Qyr,Qyo,show 20+k+vs.length-20=k+vs.length by omega,Qzc (by rw[Qyo];omega)]
 simp only[QyK]
section
variable {ops:Array Oper} {rest:List Oper} {o:Oper} {a:Act} {w:World} {Q:Exit→Act→World→Prop}
theorem Qc5 (hgd:o.guard=none) (hd:o.dst=none) (x y:Operand) (ho:o.op= .store 110 x y) {g:Nat} {t:TypeId} {l:List Value} {c:Cmd} {P:List UInt8} {v:Value} (hg:Blk w g t l) (hx:a.eval x= .pointer (some ⟨g,0,none⟩)) (hy:a.eval y= .agg (PC c P v).toArray) (hP:P.length=768) (hv:v.oneCell'=true) (hl:l.length=789)
 (h:∀w',Blk w' g t (PC c P v)→Only g w w'→wpList Tryz.prog ops Q rest a w'):wpList Tryz.prog ops Q (o :: rest) a w:=
 Qae hgd hd _ x y ho g t l _ hg hx hy 789 Qeq (Qbf c hP v) hl (QvJ c P hv) h
theorem Qn8 (hw:Region.wanted o (yielded ops a.tmps)=true) (x:Operand) (ho:o.op= .load 110 x) {g:Nat} {t:TypeId} {c:Cmd} {P:List UInt8} {v:Value} (hb:Blk w g t (PC c P v)) (hP:P.length=768) (hx:a.eval x= .pointer (some ⟨g,0,none⟩))
 (h:wpList Tryz.prog ops Q rest (a.put o.dst (.agg (PC c P v).toArray)) w):wpList Tryz.prog ops Q (o :: rest) a w:=
 Qam hw _ x ho g 0 _ (fun j v hv=>by rw[QyE];exact hb.cellD j hv) hx _ Tryz.underlying110 rfl (by rw[Qbf c hP];exact Qeq) h
theorem Qqj (hw:Region.wanted o (yielded ops a.tmps)=true) (x:Operand) (ho:o.op= .load 55 x) {g:Nat} {t:TypeId} {c:Cmd} {P:List UInt8} {v:Value} (hb:Blk w g t (PC c P v)) (hx:a.eval x= .pointer (some ⟨g,0,none⟩))
 (h:wpList Tryz.prog ops Q rest (a.put o.dst (.agg (CC c).toArray)) w):wpList Tryz.prog ops Q (o :: rest) a w:=
 Qam hw _ x ho g 0 _ (fun j v hv=>hb.cellD _ (QiS _ _ _ j v hv)) hx _ Tryz.underlying55 rfl (by rw[Qao];exact Qic) h
end
set_option maxRecDepth 100000 in
theorem QlB (c:Cmd) (w:World):Calls Tryz.prog 36 #[.agg (CC c).toArray] w fun e w'=>e= .returned (.bool (!(c.kd==1)))∧Later w w':=by
 have hb:Blk (w.alloc (.cells (CC c).toArray 55)) w.heap.size 55 (CC c):=Blk.new _ _ _
 have c0:=(QgT hb).1
 have n1:(c.kd != 1)= !(c.kd==1):=rfl
 go_enter Tryz.func36,Tryz.ntmps36
 go_wp2
 go_ret
 exact⟨rfl,Qaa _ _⟩
set_option maxRecDepth 100000 in
theorem Qru (c:Cmd) (w:World):Calls Tryz.prog 12 #[.agg (CC c).toArray] w fun e w'=>e= .returned (.int .i64 (c.dl.toNat:Nat))∧Later w w':=by
 have hb:Blk (w.alloc (.cells (CC c).toArray 55)) w.heap.size 55 (CC c):=Blk.new _ _ _
 have c0:=(QgT hb).2.2.1
 have hw:IntKind.i64.wrap (c.dl.toNat:Int)=(c.dl.toNat:Int):=by
  have:=c.dl.toNat_lt
  simp only[IntKind.wrap,IntKind.bits,IntKind.signed]
  simp
  omega
 go_enter Tryz.func12,Tryz.ntmps12
 go_wp2
 go_ret
 exact⟨rfl,Qaa _ _⟩
theorem Qgl (s p:List UInt8) (hp:p.length=768) (hs:s.length=192):(relP s p).length=768:=by
 have h1:(p.take 288).length=288:=by rw[QyW];omega
 have hf:fitW (kPay s) (p.drop 288):=⟨Qas (by omega),by rw[QyQ];omega,by rw[QyQ];omega⟩
 unfold relP
 split
 ·rw[Qyz,Qfz _ _ h1,Qc8,Qf2 okO hf,QcP _ _ _ hf.2.1,QyQ,hp]
 ·exact QyO
theorem Qeo (s p:List UInt8) (hp:p.length=768) (hs:s.length=192):(Qc8 s p).length=480:=by
 have hf:fitW (kPay s) (p.drop 288):=⟨Qas (by omega),by rw[QyQ];omega,by rw[QyQ];omega⟩
 rw[Qc8,Qf2 okO hf,QcP _ _ _ hf.2.1,QyQ,hp]
theorem QrD (p:List UInt8) (k n:Nat) (h:p.length=k+n):subB p k n=p.drop k:=by rw[subB,QyA (by rw[QyQ];omega)]
theorem Qua (hd bd:List UInt8) (h1:hd.length=288) (h2:bd.length=480):putB (putB z768 0 hd) 288 (bd.take 480)=hd++bd:=by
 rw[QyA (by omega),z768,show Qyl 768 (0:UInt8)=Qyl 288 0++Qyl 480 0 by rw[List.replicate_append_replicate],Qdb _ _ _ (by rw[QyO,h1]),QdY _ _ _ 288 h1 (by rw[QyO,h2])]
theorem Qqy {w:World} {base g n c:Nat} {bs:List UInt8} {rest:List Value} (h:Blk w g 5 (bs.map W8++rest)) (hb:base≤g) (hn:bs.length=n) (hc:c=(bs.map W8++rest).length) (hm:(bs.map W8++rest).length≤maxLen):OwnB w base (some ⟨g,0,none⟩) n c bs:=by
 subst hc
 have:=QsI h hb hm
 rw[Qyo,hn]at this
 exact this
theorem Qtw {w:World} {base n c:Nat} {A:Option Addr} {bs:List UInt8} {l:List Value} (h:OwnB w base A n c bs) (hc:c=l.length):l.length≤maxLen:=by
 subst hc
 rcases h.2 with ⟨hv,_⟩|⟨g,cap,cur,hv,_,_,_,hm,_⟩
 ·injection hv with _ _ h3
  omega
 ·injection hv with _ _ h3
  omega
set_option maxRecDepth 100000 in
set_option maxHeartbeats 8000000 in
theorem QoG (s p:List UInt8) (hp:p.length=768) (hs:s.length=192) (w:World):
 Calls Tryz.prog 59 #[.agg (s.map W8).toArray,.agg (p.map W8).toArray] w fun e w'=>∃A' c',e= .returned (.tuple #[.agg (PC (relC s p) (relP s p) (.slice A' (relB s p).length c')).toArray,.int .i64 (relE s p:Nat)])∧OwnB w' w.heap.size A' (relB s p).length c' (relB s p)∧Later w w':=by
 have HZ:=hid zcPe
 have HH:=hid zcH
 have C1:=Qbh w 161 (s.map W8)
 have C2:=C1.add (Qaa _ (.cells (p.map W8).toArray 100)) (k:=w.heap.size+1) (by simp) (by omega) (Blk.new' _ _ _ (by simp))
 have C3:=C2.add (Qaa _ (.cells Tryz.zeroCells110 110)) (k:=w.heap.size+2) (by simp) (by omega) ((Blk.new' _ _ Tryz.zeroCells110.toList (by simp)).cast HZ.out)
 clear C1 C2
 have hdl:(p.take 288).length=288:=by rw[QyW];omega
 have k2:(kPay s).length=32:=Qas (by omega)
 have bl:(p.drop 288).length=480:=by rw[QyQ];omega
 have hO:=hid (Qpy (p.take 288) s hdl hs)
 have hf:fitW (kPay s) (p.drop 288):=⟨k2,by omega,by omega⟩
 have hWi:=hid (fun A B c d (w:World) h1 hc h2 hd=>Qpj A B 32 c 480 d (kPay s) (p.drop 288) w h1 hc h2 hd (by omega) (by omega))
 rw[Qjq okO hf]at hWi
 have hBl:=Qeo s p hp hs
 have hst:=hid (QrD p 288 480 hp)
 have hE:Hid (relE s p=Qhb (p.take 288) s):=hid rfl
 have hC:Hid (relC s p=Qke (p.take 288) s):=hid rfl
 have hP:Hid (relP s p=if relE s p=0∧(relC s p).kd=1 then Qie (p.take 288) s++Qc8 s p else z768):=hid rfl
 have hB:Hid (relB s p=if relE s p=0∧(relC s p).kd≠1 then Qc8 s p else []):=hid rfl
 have hON:=Qfz (p.take 288) s hdl
 have hput:=hid (Qua (Qie (p.take 288) s) (Qc8 s p) hON hBl)
 rw[show Qeb (kPay s) (p.drop 288) rsO=Qc8 s p from rfl,hBl]at hWi
 have hcz:Hid (Qhb (p.take 288) s≠0→Qke (p.take 288) s=cmd0):=hid (fun h=>by rw[Qke,if_neg h])
 rw[←hE.out]at hcz hO
 have hsh:Hid (subB p 0 288=p.take 288):=hid rfl
 generalize relP s p=RP at *
 generalize relB s p=RB at *
 generalize Qc8 s p=BD at *
 generalize Qie (p.take 288) s=ON at *
 generalize relE s p=RE at *
 generalize hRC:relC s p=RC at *
 have HC:=hC.out
 rw[←HC]at hO hcz
 clear HC hC hE hRC
 generalize p.take 288=PH at *
 generalize p.drop 288=PD at *
 have hb0:=Qjh
 have hb1:=Qmt RC
 have hb2:=QnM RC
 have hzl:(PC cmd0 z768 nil8).length=789:=Qbf _ Qaz _
 have lh:((Qyl 288 (0:UInt8)).map W8).length=288:=by rw[Qyo,QyO]
 generalize Qyl 288 (0:UInt8)=ZH at *
 go_enter Tryz.func59,Tryz.ntmps59
 go_wp2_with (first
  | (refine QnT 0 288 rfl _ rfl (C3.nth 1 rfl) rfl Tryz.underlying97 rfl Qcn hsh.out hdl ?_)
  | (refine Qiy rfl _ rfl (C3.nth 2 rfl) hs rfl ?_)
  | fail)
 (with_reducible refine (hO.out _).mono ?_);rintro e w5 ⟨rfl,l5⟩
 replace C3:=C3.later l5
 clear l5 hO
 have Ca:=C3.fresh (Qaa _ (.cells cz0.toArray 53)) (Qyv _) (Blk.new w5 53 cz0)
 have Cb:=Ca.add (Qaa _ (.cells Tryz.zeroCells97 97)) (k:=w5.heap.size+1) (fun q hq e=>by
  have:=(Ca.blk q hq).lt
  simp at this
  omega) (by have:=C3.lat.size;omega) ((Blk.new' _ 97 Tryz.zeroCells97.toList (by simp)).cast HH.out)
 clear Ca C3
 by_cases hr:RE=0
 ·subst hr
  replace hP:Hid (RP=if RC.kd=1 then ON++BD else z768):=hid (by rw[hP.out];simp)
  replace hB:Hid (RB=if RC.kd≠1 then BD else []):=hid (by rw[hB.out];simp)
  clear hcz
  go_wp2_with (first
   | (refine Qcl rfl rfl _ _ rfl (Cb.nth 1 rfl) rfl rfl rfl ?_;intro w6 hb6 ho6
      have Cc:=Cb.write 1 rfl ho6 hb6)
   | (refine Qdu rfl rfl _ _ rfl (Cc.nth 0 rfl) rfl rfl hON lh ?_;intro w7 hb7 ho7
      have Cd:=Cc.write 0 rfl ho7 hb7)
   | fail)
  have Ce:=Cd.drew
  clear Cb Cc Cd hb6 ho6 hb7 ho7
  refine Qad [([0,1,2,3,4],5)] [6,7,8,9,10] [] (by as_aux_lemma=>kernel_rfl) (by as_aux_lemma=>kernel_rfl) (by intro _ _ d _ _ h;cases d<;>exact h) ?_
  simp only[Qaj,pick,Qym,Qyn,Qyp,Qys,Qyr]
  repeat (go_big_quiet_step (fail))
  refine wpQuiet_nil ?_
  go_wp2_with fail
  (refine (hWi.out _ _ _ _ _ (QcD (Ce.nth 4 rfl) rfl k2) (by omega) (QcD (Ce.nth 3 rfl) hst.out bl) (Qyv _)).mono ?_);rintro e w8 ⟨l8,A8,c8,rfl,o8⟩
  go_wp2_with fail
  try refine⟨by first|assumption|exact Qab _|exact Qaa _ _|exact Later.refl _,?_⟩
  try simp only[Qaj,pick,Qym,Qyn,Qyp,Qys,Qyr]
  repeat (go_big_quiet_step (fail))
  refine wpQuiet_nil ?_
  obtain⟨g8,r8,rfl,hg8,hb8,hc8,hcc8⟩:=Qif o8 (by omega)
  have hm8:(BD.map W8++r8).length≤maxLen:=Qtw o8 hc8
  have Cf:=Ce.fresh l8 hg8 hb8
  replace hc8:=hid hc8
  clear o8 Ce hWi hb8 hg8
  go_wp2_with (first
   | (refine QgX rfl _ rfl (Cf.nth 2 rfl) rfl ?_)
   | (refine Qah rfl 55 _ rfl (CC RC) (by simp only[Qyw,QyJ,QyD];exact hb1) ?_)
   | (refine Qah rfl 110 _ rfl (PC RC z768 nil8) (by simp only[Qyw,QyJ,QyD];exact hb2) ?_)
   | (refine Qc5 rfl rfl _ _ rfl ((Blk.new w8 _ Tryz.zeroCells110.toList).cast HZ.out) rfl rfl Qaz rfl hzl ?_;intro w9 hb9 ho9
      have Cg:=Cf.push (Qaa _ _) (Qyv _) ho9 hb9)
   | (refine Qqj rfl _ rfl (Cg.nth 0 rfl) rfl ?_)
   | fail)
  (with_reducible refine (QlB RC _).mono ?_);rintro e w10 ⟨rfl,l10⟩
  have Ch:=Cg.later l10
  clear hb9 ho9 Cg Cf
  cases hk:(RC.kd==1)
  ·have hkn:RC.kd≠1:=by simpa using hk
   have HP:RP=z768:=by rw[hP.out,if_neg hkn]
   have HB:RB=BD:=by rw[hB.out,if_pos hkn]
   replace HP:=hid HP
   replace HB:=hid HB
   go_wp2_with (first
    | (refine Qag rfl rfl _ _ _ rfl w8.heap.size 788 _ _ (Ch.nth 0 rfl) rfl (by rw[Qbf _ Qaz];omega) rfl (by kernel_rfl) ?_;intro v11 w11 hv11 hb11 ho11;simp[go_sem]at hv11;subst hv11;rw[QtP _ Qaz]at hb11
       have Ci:=Ch.write 0 rfl ho11 hb11)
    | (refine Qn8 rfl _ rfl (Ci.nth 0 rfl) Qaz rfl ?_)
    | (refine Qc5 rfl rfl _ _ rfl (Ci.nth 4 rfl) rfl rfl Qaz rfl hzl ?_;intro w12 hb12 ho12
       have Cj:=Ci.write 4 rfl ho12 hb12)
    | fail)
   refine bodyPost_ret (Qaf rfl _ _ _ _ _ _ hb12 rfl Tryz.underlying110 rfl (by rw[Qbf _ Qaz];exact Qeq)) rfl ⟨some ⟨g8,0,none⟩,c8,by rw[HP.out,HB.out,hBl];rfl,?_,Cj.lat⟩
   rw[HB.out,hBl]
   exact Qqy (Cj.nth 1 rfl) (Cj.at_low 1 rfl) hBl hc8.out hm8
  ·have hky:RC.kd=1:=by simpa using hk
   have HP:RP=ON++BD:=by rw[hP.out,if_pos hky]
   have HB:RB=[]:=by rw[hB.out,if_neg (by simp[hky])]
   have hPl:(ON++BD).length=768:=by rw[Qyz];omega
   have l1:(putB z768 0 ON).length=768:=by rw[Qb3 (by rw[Qaz];omega)];exact Qaz
   replace HP:=hid HP
   replace HB:=hid HB
   have r8:=hid (fun w (h:Blk w g8 5 (BD.map W8++r8))=>(show Rd w (some ⟨g8,0,none⟩) 480 (BD.map W8) from QcU h hBl))
   generalize ON++BD=PK at *
   have hs1:=hid (Qpl RC (P:=z768) (vs:=ON) nil8 0 (by rw[Qaz];omega))
   have hs2:=hid (Qpl RC (P:=putB z768 0 ON) (vs:=BD.take 480) nil8 288 (by rw[l1,QyW];omega))
   rw[hput.out]at hs2
   generalize putB z768 0 ON=P1 at *
   go_wp2_with (first
    | (refine Qlz rfl _ rfl (Ch.nth 2 rfl) hON rfl ?_)
    | (refine Qal rfl rfl 97 _ _ rfl w8.heap.size 20 _ _ (ON.map W8) (Ch.nth 0 rfl) rfl rfl (by rw[Qyo,hON];exact Qcn) (by rw[Qbf _ Qaz,Qyo];omega) (QaC _) ?_;intro w11 hb11 ho11;rw[hs1.out]at hb11
       have Ci:=Ch.write 0 rfl ho11 hb11)
    | (refine Qaq rfl _ _ _ _ rfl 5 Tryz.underlying25 Qbo w8.heap.size 308 480 480 _ _ (Ci.nth 0 rfl) (some ⟨g8,0,none⟩) 480 c8 (BD.map W8) (r8.out _ (Ci.nth 1 rfl)) (QaC _) rfl rfl (by rw[Qbf _ l1];omega) ?_;intro w13 hb13 ho13;rw[←Qzp,hs2.out]at hb13
       have Ck:=Ci.write 0 rfl ho13 hb13)
    | (refine Qn8 rfl _ rfl (Ck.nth 0 rfl) hPl rfl ?_)
    | (refine Qc5 rfl rfl _ _ rfl (Ck.nth 4 rfl) rfl rfl hPl rfl hzl ?_;intro w12 hb12 ho12
       have Cj:=Ck.write 4 rfl ho12 hb12)
    | fail)
   refine bodyPost_ret (Qaf rfl _ _ _ _ _ _ hb12 rfl Tryz.underlying110 rfl (by rw[Qbf _ hPl];exact Qeq)) rfl ⟨none,0,by rw[HP.out,HB.out];rfl,?_,Cj.lat⟩
   rw[HB.out]
   exact QaZ _ _ _
 ·have hne:((RE:Int) != 0)=true:=by simp;omega
  have HC:=hcz.out hr
  subst HC
  have HP:RP=z768:=by rw[hP.out,if_neg (fun h=>hr h.1)]
  have HB:RB=[]:=by rw[hB.out,if_neg (fun h=>hr h.1)]
  replace HP:=hid HP
  replace HB:=hid HB
  clear hP hB
  go_wp2_with (first
   | (refine Qcl rfl rfl _ _ rfl (Cb.nth 1 rfl) rfl rfl rfl ?_;intro w6 hb6 ho6
      have Cc:=Cb.write 1 rfl ho6 hb6)
   | (refine Qdu rfl rfl _ _ rfl (Cc.nth 0 rfl) rfl rfl hON lh ?_;intro w7 hb7 ho7
      have Cd:=Cc.write 0 rfl ho7 hb7)
   | (refine Qah rfl 110 _ rfl (PC cmd0 z768 nil8) (by simp only[Qyw,QyD];exact hb0) ?_)
   | (refine Qc5 rfl rfl _ _ rfl (Cd.nth 2 rfl) rfl rfl Qaz rfl hzl ?_;intro w12 hb12 ho12
      have Cj:=Cd.write 2 rfl ho12 hb12)
   | fail)
  refine bodyPost_ret (Qaf rfl _ _ _ _ _ _ hb12 rfl Tryz.underlying110 rfl (by rw[Qbf _ Qaz];exact Qeq)) rfl ⟨none,0,by rw[HP.out,HB.out];rfl,?_,Cj.lat⟩
  rw[HB.out]
  exact QaZ _ _ _
set_option maxRecDepth 100000 in
set_option maxHeartbeats 4000000 in
theorem QmZ (A:Option Addr) (n c:Nat) (k p:List UInt8) (w:World) (hk:RdB w A n k) (hn:n≤140737488355328) (hp:p.length=768):
 Calls Tryz.prog 34 #[.slice A n c,.agg (p.map W8).toArray] w fun e w'=>∃A' c',e= .returned (.tuple #[.agg (PC (unwC k p) (unwP k p) (.slice A' (unwB k p).length c')).toArray,.int .i64 (unwE k p:Nat)])∧OwnB w' w.heap.size A' (unwB k p).length c' (unwB k p)∧Later w w':=by
 have HZ:=hid zcPe
 have C1:=Qbh w 100 (p.map W8)
 have C2:=C1.add (Qaa _ (.cells Tryz.zeroCells110 110)) (k:=w.heap.size+1) (by simp) (by omega) ((Blk.new' _ _ Tryz.zeroCells110.toList (by simp)).cast HZ.out)
 clear C1
 have hal:(p.take 32).length=32:=by rw[QyW];omega
 have hPe:=hid (fun (w:World) B d hk' hu=>Qqw A B n c 32 d k (p.take 32) w hk' hu hn (by omega))
 have hsl:=QcS k (p.take 32)
 have hO:=hid (QoG (QcK k (p.take 32)) p hp hsl)
 have hE:Hid (unwE k p=if QbO k (p.take 32)=0 then relE (QcK k (p.take 32)) p else QbO k (p.take 32)):=hid rfl
 have hC:Hid (unwC k p=if QbO k (p.take 32)=0 then relC (QcK k (p.take 32)) p else cmd0):=hid rfl
 have hP:Hid (unwP k p=if QbO k (p.take 32)=0 then relP (QcK k (p.take 32)) p else z768):=hid rfl
 have hB:Hid (unwB k p=if QbO k (p.take 32)=0 then relB (QcK k (p.take 32)) p else []):=hid rfl
 have hRPl:=Qgl (QcK k (p.take 32)) p hp hsl
 have hsh:Hid (subB p 0 32=p.take 32):=hid rfl
 generalize unwE k p=UE at *
 generalize unwC k p=UC at *
 generalize unwP k p=UP at *
 generalize unwB k p=UB at *
 generalize QbO k (p.take 32)=ME at *
 generalize relP (QcK k (p.take 32)) p=RP at *
 generalize relC (QcK k (p.take 32)) p=RC at *
 generalize relB (QcK k (p.take 32)) p=RB at *
 generalize relE (QcK k (p.take 32)) p=RE at *
 generalize QcK k (p.take 32)=S at *
 generalize p.take 32=al at *
 have hb0:=Qjh
 have hzl:(PC cmd0 z768 nil8).length=789:=Qbf _ Qaz _
 have hz1:=Qvn
 go_enter Tryz.func34,Tryz.ntmps34
 go_wp2_with fail
 (refine (hPe.out _ _ _ (hk.later C2.lat) (QcD (C2.nth 1 rfl) hsh.out hal)).mono ?_);rintro e w3 ⟨rfl,l3⟩
 replace C2:=C2.later l3
 clear hPe l3
 by_cases h0:ME=0
 ·subst h0
  replace hE:=hid (hE.out.trans (if_pos rfl))
  replace hC:=hid (hC.out.trans (if_pos rfl))
  replace hP:=hid (hP.out.trans (if_pos rfl))
  replace hB:=hid (hB.out.trans (if_pos rfl))
  go_wp2_with (first
   | (refine QeL rfl rfl _ _ rfl (Blk.new w3 _ Tryz.zeroCells161.toList) rfl rfl hsl hz1 ?_;intro w4 hb4 ho4
      have C3:=C2.push (Qaa _ _) (Qyv _) ho4 hb4)
   | (refine Qiy rfl _ rfl (C3.nth 0 rfl) hsl rfl ?_)
   | (refine Qp1 rfl _ rfl (C3.nth 2 rfl) hp rfl ?_)
   | fail)
  (with_reducible refine (hO.out _).mono ?_);rintro e w5 ⟨A5,c5,rfl,o5,l5⟩
  have hone:(Value.slice A5 RB.length c5).oneCell'=true:=rfl
  have C4:=C3.later l5
  have hlow:∀b,(Value.slice A5 RB.length c5).ownBlock=some b→b≠w.heap.size+1:=fun b hb e=>by
   have h1:=(World.ownsRow.lt o5 b hb).1
   have h2:=(C3.nth 1 rfl).lt
   omega
  go_wp2_with (first
   | (refine Qc5 rfl rfl _ _ rfl (C4.nth 1 rfl) rfl rfl hRPl hone hzl ?_;intro w6 hb6 ho6
      have C5:=C4.write 1 rfl ho6 hb6
      have o6:=QfT o5 ho6 hlow)
   | fail)
  refine bodyPost_ret (Qaf rfl _ _ _ _ _ _ hb6 rfl Tryz.underlying110 rfl (by rw[Qbf _ hRPl];exact Qeq)) rfl ⟨A5,c5,by rw[hE.out,hC.out,hP.out,hB.out];rfl,?_,C5.lat⟩
  rw[hB.out]
  exact QbR o6 C3.lat.size
 ·have hne:((ME:Int) != 0)=true:=by simp;omega
  replace hE:=hid (hE.out.trans (if_neg h0))
  replace hC:=hid (hC.out.trans (if_neg h0))
  replace hP:=hid (hP.out.trans (if_neg h0))
  replace hB:=hid (hB.out.trans (if_neg h0))
  go_wp2_with (first
   | (refine QeL rfl rfl _ _ rfl (Blk.new w3 _ Tryz.zeroCells161.toList) rfl rfl hsl hz1 ?_;intro w4 hb4 ho4
      have C3:=C2.push (Qaa _ _) (Qyv _) ho4 hb4)
   | (refine Qah rfl 110 _ rfl (PC cmd0 z768 nil8) (by simp only[Qyw,QyD];exact hb0) ?_)
   | (refine Qc5 rfl rfl _ _ rfl (C3.nth 1 rfl) rfl rfl Qaz rfl hzl ?_;intro w6 hb6 ho6
      have C5:=C3.write 1 rfl ho6 hb6)
   | fail)
  refine bodyPost_ret (Qaf rfl _ _ _ _ _ _ hb6 rfl Tryz.underlying110 rfl (by rw[Qbf _ Qaz];exact Qeq)) rfl ⟨none,0,by rw[hE.out,hC.out,hP.out,hB.out];rfl,?_,C5.lat⟩
  rw[hB.out]
  exact QaZ _ _ _
section
variable {n:Nat} {sl st:Nat→List UInt8} (hn1:1≤n) (hn5:n≤5) (hsl:∀k,(sl k).length=32)
include hn1 hn5 hsl
end
theorem Qr1 (b:List UInt8) (hb:b.length=480):QcM b<65536:=by
 have:=Qsj (subB b 28 2) 0 1 (by omega)
 rw[Qas (by omega)]at this
 unfold QcM
 omega
theorem Qp8 (b:List UInt8) (hb:b.length=480) (hs:QcM b≤450):(QjV b).da.length=QcM b:=Qas (by omega)
open Classical in
def ScP (w0:World) (g8:Nat) (w:World) (v:Value) (p:List UInt8):Prop:=
 (∃ A c,v= .slice A 32 c∧32≤c∧RdB w0 A 32 p)∨(∃ b,v= .slice (some ⟨b,0,none⟩) 32 32∧b≠g8∧p.length=32∧Blk w b 45 (p.map W8))∨(∃ A c base,v= .slice A 32 c∧OwnB w base A 32 c p)
structure ScRow (w0:World) (g8:Nat) (w:World) (v:Value) (sc:List (List UInt8)) (vs:List Value):Prop where
 own:w.ownsRow w0.heap.size 25 1 v sc.length vs
 len:vs.length=sc.length
 each:∀(j:Nat) u p,vs[j]?=some u→sc[j]?=some p→ScP w0 g8 w u p
theorem Qtt:(45:TypeId)≠25:=by decide
theorem ne8L:(5:TypeId)≠25:=by decide
theorem Qxh:(5:TypeId)≠45:=by decide
theorem ScP.later {w0 w w':World} {g8:Nat} {v:Value} {p:List UInt8} (h:ScP w0 g8 w v p) (j:Later w w'):ScP w0 g8 w' v p:=by
 rcases h with h|⟨b,h1,h2,h3,h4⟩|⟨A,c,base,h1,h2⟩
 ·exact .inl h
 ·exact .inr (.inl ⟨b,h1,h2,h3,h4.later j⟩)
 ·exact .inr (.inr ⟨A,c,base,h1,Qay h2 j⟩)
theorem ScP.part {w0 w:World} {g8:Nat} {v:Value} {p:List UInt8} (h:ScP w0 g8 w v p) (j:Later w0 w):Part w (fun _=>False) v p:=by
 rcases h with ⟨A,c,rfl,hc,h⟩|⟨b,rfl,_,h3,h4⟩|⟨A,c,base,rfl,h2⟩
 ·exact Qdx (h.later j) hc
 ·exact Qdx (QgB h4 h3) (Qyv _)
 ·exact Qdx h2.rd h2.cap
theorem ScP.only {w0 w w':World} {g8:Nat} {v:Value} {p:List UInt8} {l:List Value} (h:ScP w0 g8 w v p) (hg:Blk w g8 45 l) (ho:Only g8 w w'):ScP w0 g8 w' v p:=by
 rcases h with h|⟨b,h1,h2,h3,h4⟩|⟨A,c,base,h1,h2⟩
 ·exact .inl h
 ·exact .inr (.inl ⟨b,h1,h2,h3,h4.only ho h2⟩)
 ·exact .inr (.inr ⟨A,c,base,h1,QaM h2 hg (fun e=>Qxh e.symm) ho⟩)
theorem ScP.grown {w0 w w':World} {g8 base sz:Nat} {v v2:Value} {p:List UInt8} {e:TypeId} {n:Nat} {vs:List Value} (h:ScP w0 g8 w v p) (hown:w.ownsRow base e sz v2 n vs) (h1:45≠e) (h2:5≠e) (hg:w.grownBy w' v2.ownBlock):ScP w0 g8 w' v p:=by
 rcases h with h|⟨b,k1,k2,k3,k4⟩|⟨A,c,base',k1,k2⟩
 ·exact .inl h
 ·exact .inr (.inl ⟨b,k1,k2,k3,Qd7 k4 hown h1 hg⟩)
 ·exact .inr (.inr ⟨A,c,base',k1,Qcx k2 hown h2 hg⟩)
theorem ScRow.later {w0 w w':World} {g8:Nat} {v:Value} {sc:List (List UInt8)} {vs:List Value} (h:ScRow w0 g8 w v sc vs) (j:Later w w'):ScRow w0 g8 w' v sc vs:=
 ⟨Qay h.own j,h.len,fun k u p hu hp=>(h.each k u p hu hp).later j⟩
theorem ScRow.only {w0 w w':World} {g8:Nat} {v:Value} {sc:List (List UInt8)} {vs:List Value} {l:List Value} (h:ScRow w0 g8 w v sc vs) (hg:Blk w g8 45 l) (ho:Only g8 w w'):ScRow w0 g8 w' v sc vs:=
 ⟨QaM h.own hg Qtt ho,h.len,fun k u p hu hp=>(h.each k u p hu hp).only hg ho⟩
theorem ScRow.grown {w0 w w':World} {g8 base sz:Nat} {v v2:Value} {sc:List (List UInt8)} {us vs:List Value} {e:TypeId} {n:Nat} (h:ScRow w0 g8 w v sc us) (hown:w.ownsRow base e sz v2 n vs) (h0:25≠e) (h1:45≠e) (h2:5≠e) (hg:w.grownBy w' v2.ownBlock):ScRow w0 g8 w' v sc us:=
 ⟨Qcx h.own hown h0 hg,h.len,fun k u p hu hp=>(h.each k u p hu hp).grown hown h1 h2 hg⟩
theorem ScRow.snoc {w0 w w':World} {g8:Nat} {v v' u:Value} {sc:List (List UInt8)} {vs:List Value} {p:List UInt8} (h:ScRow w0 g8 w v sc vs) (hu:ScP w0 g8 w u p) (hg:w.grownBy w' v.ownBlock) (hown:w'.ownsRow w0.heap.size 25 1 v' (sc.length+1) (vs++[u])):ScRow w0 g8 w' v' (sc++[p]) (vs++[u]):=by
 refine⟨by rw[Qyz];exact hown,by simp[h.len],fun j x q hx hq=>?_⟩
 by_cases hj:j<vs.length
 ·rw[QyG hj]at hx
  rw[QyG (by rw[←h.len];exact hj)]at hq
  exact (h.each j x q hx hq).grown h.own Qtt ne8L hg
 ·rw[QyC (by omega)]at hx
  rw[QyC (by rw[←h.len];omega),←h.len]at hq
  have h0:j-vs.length=0:=by
   have:=(QyB.1 hx).1
   simp at this
   omega
  rw[h0]at hx hq
  cases hx
  cases hq
  exact hu.grown h.own Qtt ne8L hg
theorem ScRow.parts {w0 w:World} {g8:Nat} {A:Option Addr} {n c:Nat} {sc:List (List UInt8)} {vs:List Value} (h:ScRow w0 g8 w (.slice A n c) sc vs) (hn:sc.length=n) (j:Later w0 w):Parts w (fun _=>False) A n sc:=by
 have ho:=h.own
 rw[hn]at ho
 exact⟨vs,Qjk ho,fun _ _ _ h=>h,h.len,fun k u p hu hp=>(h.each k u p hu hp).part j⟩
section
variable {P:Program} {ops:Array Oper} {rest:List Oper} {o:Oper} {a:Act} {w:World} {Q:Exit→Act→World→Prop}
end
end Go.Proofs.YtcbdgnlcknllnaaGreat
namespace Go.Proofs.YtcbdgnlcknllnaaGreat
open Go.RowKit
section
variable {P:Program} {ops:Array Oper} {rest:List Oper} {o:Oper} {a:Act} {w:World} {Q:Exit→Act→World→Prop}
end
end Go.Proofs.YtcbdgnlcknllnaaGreat
namespace Go.Proofs.YtcbdgnlcknllnaaGreat
open Go.RowKit
open Go.BigFrame
end Go.Proofs.YtcbdgnlcknllnaaGreat
namespace Go.Proofs.YtcbdgnlcknllnaaGreat
open Go.RowKit
structure Hp where
 nod:Nod
 delay:Int
 flags:Int
def HC (x:Hp):List Value:=NC x.nod++[.int .i64 x.delay,.int .i64 x.flags]
end Go.Proofs.YtcbdgnlcknllnaaGreat
namespace Go.Proofs.YtcbdgnlcknllnaaGreat
open Go.RowKit
open Go.BigFrame
section
variable {n:Nat} {sl st:Nat→List UInt8} (hn1:1≤n) (hn5:n≤5) (hsl:∀k,(sl k).length=32) (hst:∀k,(st k).length=192) {body:List UInt8} (hb:body.length=480)
include hn1 hn5 hsl hst hb
end
def QbW (l:List Nat):Nat:=l.foldl (fun a e=>if e≠0∧(a=0∨e<a) then e else a) 0
theorem QdM:∀(l:List Nat) (a:Nat),l.foldl (fun a e=>if e≠0∧(a=0∨e<a) then e else a) a=0↔a=0∧∀e∈l,e=0
 | [],a=>by simp
 | e :: l,a=>by
   rw[List.foldl_cons,QdM l]
   constructor
   ·rintro⟨h1,h2⟩
    split at h1
    ·rename_i h
     exact absurd h1 h.1
    ·rename_i h
     refine⟨h1,?_⟩
     intro e' he
     rcases QyI.1 he with rfl|he
     ·by_cases hz:e'=0
      ·exact hz
      ·exact absurd ⟨hz,.inl h1⟩ h
     ·exact h2 _ he
   ·rintro⟨rfl,h2⟩
    have he:=h2 e (by simp)
    exact⟨by rw[if_neg (fun h=>h.1 he)],fun e' h'=>h2 _ (by simp[h'])⟩
theorem QkQ (l:List Nat):QbW l=0↔∀e∈l,e=0:=by
 rw[QbW,QdM]
 simp
def leM (a e:Nat):Nat:=if e≠0∧(a=0∨e<a) then e else a
theorem QkP (es:List Nat) (k:Nat) (h:k<es.length):QbW (es.take (k+1))=leM (QbW (es.take k)) (es.getD k 0):=by
 rw[QbW,QbW,QyR h,List.foldl_append,Qyt,Qyq h]
 rfl
def eVM (e:Nat):Value:=.int .i64 (e:Int)
set_option maxRecDepth 100000 in
theorem Qmm (A:Option Addr) (n c:Nat) (es:List Nat) (w:World) (hr:Rd w A n (es.map eVM)) (hn:n≤1048576):
 Calls Tryz.prog 31 #[.slice A n c] w fun e w'=>e= .returned (.int .i64 (QbW es:Nat))∧Later w w':=by
 have hl:es.length=n:=by have:=hr.1;rwa [Qyo]at this
 have hst:=hid (QkP es)
 have h0:Hid (QbW (es.take 0)=0):=hid rfl
 have hn':Hid (QbW (es.take n)=QbW es):=hid (by rw[QyA (by omega)])
 go_enter Tryz.func31,Tryz.ntmps31
 go_wp2_with fail
 go_loopw [3,8] (fun s i wr=>∃k:Nat,k≤n∧i= .int .i64 k∧s= .int .i64 (QbW (es.take k):Nat)∧Later w wr) (fun _ i _=>n-(intOf i).toNat)
 case atStart=>exact⟨0,by omega,rfl,by rw[h0.out];rfl,Later.refl w⟩
 case round=>
  obtain⟨k,hk,rfl,rfl,L⟩:=hrel
  by_cases hlt:k<n
  ·obtain⟨b,o,rfl,hb,hc⟩:=(hr.later L).2 (by omega)
   have c1:wr.cell? ⟨b,o+k,none⟩=some (eVM (es.getD k 0)):=hc k _ (by rw[QyF,Qyt,Qyq (by omega)];rfl)
   have hS:=hst.out k (by omega)
   rw[eVM]at c1
   clear hc
   generalize es.getD k 0=x at *
   generalize QbW (es.take k)=y at *
   replace hS:=hid hS
   by_cases e0:x=0
   ·have f1:((x:Int) != 0)=false:=by simp[e0]
    have hz:=hid (hS.out.trans (by rw[leM,if_neg (by simp[e0])]))
    clear e0
    go_wp2_with fail
    exact⟨⟨k+1,by omega,by go_num,by rw[hz.out],L⟩,by simp[intOf];omega⟩
   have f1:((x:Int) != 0)=true:=by simp[e0]
   by_cases e1:y=0
   ·have f2:((y:Int)==0)=true:=by simp[e1]
    have hz:=hid (hS.out.trans (by rw[leM,if_pos ⟨e0,.inl e1⟩]))
    clear e0 e1
    go_wp2_with fail
    exact⟨⟨k+1,by omega,by go_num,by rw[hz.out],L⟩,by simp[intOf];omega⟩
   have f2:((y:Int)==0)=false:=by simp[e1]
   by_cases e2:x<y
   ·have f3:decide ((x:Int)<(y:Int))=true:=decide_eq_true (by omega)
    have hz:=hid (hS.out.trans (by rw[leM,if_pos ⟨e0,.inr e2⟩]))
    clear e0 e1
    go_wp2_with fail
    exact⟨⟨k+1,by omega,by go_num,by rw[hz.out],L⟩,by simp[intOf];omega⟩
   ·have f3:decide ((x:Int)<(y:Int))=false:=decide_eq_false (by omega)
    have hz:=hid (hS.out.trans (by rw[leM,if_neg (fun h=>h.2.elim e1 e2)]))
    clear e0 e1
    go_wp2_with fail
    exact⟨⟨k+1,by omega,by go_num,by rw[hz.out],L⟩,by simp[intOf];omega⟩
  ·obtain rfl:k=n:=by omega
   rw[hn'.out]
   go_wp2_with fail
   go_ret
   exact⟨rfl,L⟩
set_option maxRecDepth 100000 in
theorem QmH (A:Option Addr) (n c:Nat) (w:World) (hn:n≠768):
 Calls Tryz.prog 30 #[.slice A n c] w fun e w'=>e= .returned (.tuple #[.agg ((Qyl 768 (0:UInt8)).map W8).toArray,.int .i64 2])∧Later w w':=by
 have HZ:=hid zcP
 have hz0:=hid Qnl
 have B0:Bag w (w.alloc (.cells Tryz.zeroCells100 100)) [(w.heap.size,100,(Qyl 768 (0:UInt8)).map W8)]:=(Bag.none w).add (Qaa _ _) (by simp) (Qyv _) ((Blk.new w _ Tryz.zeroCells100.toList).cast HZ.out)
 have l0:(Qyl 768 (0:UInt8)).length=768:=QyO
 have l1:((Qyl 768 (0:UInt8)).map W8).length=768:=by rw[Qyo,l0]
 have hn2:((n:Int) != 768)=true:=bne_iff_ne.2 (by omega)
 generalize Qyl 768 (0:UInt8)=Z at *
 go_enter Tryz.func30,Tryz.ntmps30
 go_wp2_with (first
  | (refine Qah ?hw 100 _ rfl (Z.map W8) (by simp only[Qyw,QyD];exact hz0.out) ?_;(case hw=>rfl))
  | (refine QeT rfl rfl _ _ rfl (B0.nth 0 rfl) rfl rfl l0 l1 ?_;intro w1 hb1 ho1)
  | fail)
 exact bodyPost_ret (Qaf rfl _ _ _ _ _ _ hb1 rfl Tryz.underlying100 rfl (by rw[l1];exact Qfj)) rfl ⟨rfl,B0.lat.only ho1 (Qyv _)⟩
section
variable {P:Program} {ops:Array Oper} {rest:List Oper} {o:Oper} {a:Act} {w:World} {Q:Exit→Act→World→Prop}
end
end Go.Proofs.YtcbdgnlcknllnaaGreat
namespace Go.Proofs.YtcbdgnlcknllnaaGreat
open Go.BigFrame
open Go.RowKit
section
variable {P:Program} {ops:Array Oper} {Q:Exit→Act→World→Prop} {T:World→Prop}
end
theorem Spared.later {w w1 w2:World} {bad:List Nat} (h:Spared w bad w1) (hl:Later w1 w2):Spared w bad w2:=
 ⟨QyX h.1 hl.size,fun b hb hn=>(hl.below.block b (QyL hb h.1)).trans (h.2 b hb hn)⟩
theorem Spared.grown {w w1 w2:World} {bad:List Nat} {row:Option Nat} (h:Spared w bad w1) (hg:w1.grownBy w2 row) (hr:∀k,row=some k→w.heap.size≤k):Spared w bad w2:=
 ⟨QyX h.1 hg.size,fun b hb hn=>(hg.block b (QyL hb h.1) (fun e=>by have:=hr b e.symm;omega)).trans (h.2 b hb hn)⟩
theorem Spared.fresh {w w1 w2:World} {bad:List Nat} {g:Nat} (h:Spared w bad w1) (ho:Only g w1 w2) (hg:w.heap.size≤g):Spared w bad w2:=
 h.grown ho (fun k e=>by cases e;exact hg)
end Go.Proofs.YtcbdgnlcknllnaaGreat
namespace Go.Proofs.YtcbdgnlcknllnaaGreat
open Go.RowKit
open Go.BigFrame
theorem Qs8 {w:World} {b p n:Nat} {bs:List UInt8} (h:RdB w (some ⟨b,p,none⟩) n bs) (k m:Nat) (hk:k+m≤n) (hk0:0<m):RdB w (some ⟨b,p+k,none⟩) m (subB bs k m):=by
 have h1:=(RdB.cut h (k:=k) (c:=n+1) (by omega) (by omega)).take (m:=m) (by omega)
 rw[show cutA (some ⟨b,p,none⟩) k (n+1)=some ⟨b,p+k,none⟩ by
  rw[cutA,if_neg (by omega)]
  show some ((⟨b,p,none⟩:Addr).add k)=_
  rw[QbM]]at h1
 exact h1
section
variable {ops:Array Oper} {rest:List Oper} {o:Oper} {a:Act} {w:World} {Q:Exit→Act→World→Prop}
end
theorem QjR {P:Program} {d n k:Nat} {t:TypeId} {f:Field} {fs:List Field} {fs':Array Field} (hf:f.type=t) (hu:P.underlying t=some (.struct fs')) (hst:P.stoodInHeld t=false) (hs:(P.info? t).map (·.size)=some n) (hn:f.name≠ "_")
 {xs ys ps qs:List Value} (ho:f.offset=k) (hp:(xs.drop k).take n=ps) (hq:(ys.drop k).take n=qs) (b:Bool) (w:World) (hb:(Op.eqFields (d+1) ps.toArray qs.toArray fs'.toList).run P w= .ok b w):
 (Op.eqFields (d+2) xs.toArray ys.toArray (f :: fs)).run P w=if b then (Op.eqFields (d+2) xs.toArray ys.toArray fs).run P w else .ok false w:=by
 have e:P.fieldsOf t=fs':=by unfold Program.fieldsOf;rw[hu]
 rw[Op.eqFields,if_pos hn]
 simp only[Sem.run_bind,hf,ho,QcT hu rfl hs xs _ hp,QcT hu rfl hs ys _ hq,Result.andThen_ok]
 rw[run_equalIn_struct w (d+1) t ps.toArray qs.toArray (by rw[e];exact hu) hst,e,hb]
 simp only[Result.andThen_ok]
 cases b<;>simp
theorem Quy:(Tryz.prog.info? 98).map (·.size)=some 480:=by kernel_rfl
set_option maxRecDepth 100000 in
theorem Qti (d:Nat) (x y:List UInt8) (hx:x.length=288) (hy:y.length=288) (w:World) {fs:Array Field} (hu:Tryz.prog.underlying 97=some (.struct fs)):
 (Op.eqFields (d+2) (x.map W8).toArray (y.map W8).toArray fs.toList).run Tryz.prog w= .ok (x==y) w:=by
 rw[Tryz.underlying97]at hu
 cases hu
 have l1:∀off n,off+n≤288→(subB x off n).length=n:=fun off n h=>Qas (by omega)
 have l2:∀off n,off+n≤288→(subB y off n).length=n:=fun off n h=>Qas (by omega)
 rw[Qbn (k:=0) rfl (by decide) rfl (Qa4 x 0 32) (Qa4 y 0 32) (l1 _ _ (by omega)) (l2 _ _ (by omega)),
  Qcc (k:=32) rfl Tryz.underlying51 Qkm Qbo Tryz.underlying5 (by decide) rfl (Qa4 x 32 16) (Qa4 y 32 16) (l1 _ _ (by omega)) (l2 _ _ (by omega)),
  Qcc (k:=48) rfl Tryz.underlying95 Qt5 Qbo Tryz.underlying5 (by decide) rfl (Qa4 x 48 240) (Qa4 y 48 240) (l1 _ _ (by omega)) (l2 _ _ (by omega)),Qch]
 have h:(x==y)=(subB x 0 32==subB y 0 32&&(subB x 32 16==subB y 32 16&&subB x 48 240==subB y 48 240)):=by
  rw[Qkw x y 48 240 (by omega) (by omega),QhB x y 32 16,QhB x y 0 32]
  rfl
 rw[h]
 cases subB x 0 32==subB y 0 32<;>cases subB x 32 16==subB y 32 16<;>cases subB x 48 240==subB y 48 240<;>rfl
abbrev Y768:={l:List UInt8 // l.length=768}
theorem QsZ:Tryz.prog.eqGuardType Tryz.prog.depth 100=false:=by kernel_rfl
@[go_sem high] theorem Qur (op:BinOp) (x y:Operand) (xs ys:Array Value) (w:World):(eqGuard op 100 x y (.agg xs) (.agg ys)).run Tryz.prog w= .ok () w:=run_eqGuard_agg w op _ x y xs ys QsZ
set_option maxRecDepth 100000 in
theorem Qf0 (x y:List UInt8) (hx:x.length=768) (hy:y.length=768) (w:World) {fs:Array Field} (hu:Tryz.prog.underlying 100=some (.struct fs)):
 (Op.eqFields 9999 (x.map W8).toArray (y.map W8).toArray fs.toList).run Tryz.prog w= .ok (x==y) w:=by
 rw[Tryz.underlying100]at hu
 cases hu
 have l1:(subB x 0 288).length=288:=Qas (by omega)
 have l2:(subB y 0 288).length=288:=Qas (by omega)
 have l3:(subB x 288 480).length=480:=Qas (by omega)
 have l4:(subB y 288 480).length=480:=Qas (by omega)
 rw[QjR (d:=9997) (k:=0) rfl Tryz.underlying97 (by kernel_rfl) Qcn (by decide) rfl (Qa4 x 0 288) (Qa4 y 0 288) _ w (Qti 9996 _ _ l1 l2 w Tryz.underlying97),
  Qcc (d:=9997) (k:=288) rfl Tryz.underlying98 Quy Qbo Tryz.underlying5 (by decide) rfl (Qa4 x 288 480) (Qa4 y 288 480) l3 l4,Qch]
 have h:(x==y)=(subB x 0 288==subB y 0 288&&subB x 288 480==subB y 288 480):=by
  rw[Qkw x y 288 480 (by omega) (by omega),QhB x y 0 288]
  rfl
 rw[h]
 cases subB x 0 288==subB y 0 288<;>cases subB x 288 480==subB y 288 480<;>rfl
@[go_sem high] theorem Qtg (x y:Y768) (w:World):(binOp .eql 100 (.agg (x.val.map W8).toArray) (.agg (y.val.map W8).toArray)).run Tryz.prog w= .ok (.bool (x.val==y.val)) w:=by
  rw[QeQ Tryz.underlying100 (by kernel_rfl),Qf0 _ _ x.2 y.2 w Tryz.underlying100]
  rfl
@[go_sem high] theorem QtX (x y:Y768) (w:World):(binOp .neq 100 (.agg (x.val.map W8).toArray) (.agg (y.val.map W8).toArray)).run Tryz.prog w= .ok (.bool (!(x.val==y.val))) w:=by
  rw[Qgk Tryz.underlying100 (by kernel_rfl),Qf0 _ _ x.2 y.2 w Tryz.underlying100]
  rfl
section
variable {ops:Array Oper} {rest:List Oper} {o:Oper} {a:Act} {w:World} {Q:Exit→Act→World→Prop}
end
theorem QgR (k p:List UInt8) (hp:p.length=768):(unwP k p).length=768:=by
 unfold unwP
 split
 ·exact Qgl _ _ hp (QcS _ _)
 ·exact QyO
theorem Qm0 (k p:List UInt8) (hp:p.length=768):(unwB k p).length≤480:=by
 unfold unwB
 split
 ·unfold relB
  split
  ·rw[Qeo _ _ hp (QcS _ _)]
   omega
  ·simp
 ·simp
section
variable {ops:Array Oper} {rest:List Oper} {o:Oper} {a:Act}
end
theorem Qoe (b:List UInt8) (hb:b.length=480):parE b=if allZ (b.take 16)=false then 7 else if b.getD 16 0<1∨3<b.getD 16 0 then 1 else if b.getD 19 0≠0∨450<QcM b then 3 else if prtE (QjV b)≠0∨allZ (b.drop (30+QcM b))=false then 3 else 0:=by
 have h1:(b.take 16≠Qyl 16 0)=(allZ (b.take 16)=false):=by
  have:=QiC (b.take 16)
  rw[show (b.take 16).length=16 by rw[QyW];omega]at this
  rw[Ne,←this,Bool.not_eq_true]
 rw[parE,if_neg (by omega)]
 simp only[h1]
 by_cases hs:450<QcM b
 ·rw[if_pos (show b.getD 19 0≠0∨450<QcM b from .inr hs),if_pos (show b.getD 19 0≠0∨450<QcM b from .inr hs)]
 ·have h2:(b.drop (30+QcM b)≠Qyl (450-QcM b) 0)=(allZ (b.drop (30+QcM b))=false):=by
   have:=QiC (b.drop (30+QcM b))
   rw[show (b.drop (30+QcM b)).length=450-QcM b by rw[QyQ];omega]at this
   rw[Ne,←this,Bool.not_eq_true]
  simp only[h2]
set_option maxRecDepth 100000 in
set_option maxHeartbeats 4000000 in
theorem QmF (A:Option Addr) (c:Nat) (b:List UInt8) (w:World) (hb:RdB w A 480 b) (hc:480≤c):
 Calls Tryz.prog 37 #[.slice A 480 c] w fun e w'=>∃A' c',e= .returned (.tuple #[.agg (PaC (parP b) (.slice A' (parP b).da.length c')).toArray,.int .i64 (parE b:Nat)])∧OwnB w' w.heap.size A' (parP b).da.length c' (parP b).da∧Later w w':=by
 have hbl:=hb.len
 obtain⟨b0,o,rfl,hb00,_⟩:=hb.2 (by omega)
 have hE:=hid (Qoe b hbl)
 have hP:Hid (parP b=if parE b=0 then QjV b else prt0):=hid rfl
 have hOf:Hid (QjV b=⟨b.getD 16 0,QyM (beN (subB b 20 8) 0),((b.getD 17 0).toNat:Int),((b.getD 18 0).toNat:Int),subB b 30 (QcM b)⟩):=hid rfl
 have hsp:Hid (QcM b=beN (subB b 28 2) 0):=hid rfl
 have hs6:=Qr1 b hbl
 have hZ1:=hid (fun (w:World) (h:RdB w (some ⟨b0,o,none⟩) 480 b)=>Ql3 (some ⟨b0,o,none⟩) 16 c (b.take 16) w (h.take (by omega)) (by omega))
 have hG1:=hid (fun (w:World) (h:RdB w (some ⟨b0,o,none⟩) 480 b)=>QfZ (some ⟨b0,o,none⟩) 480 c 20 8 b w h (by omega) (by omega) (by omega) (by omega))
 have hG2:=hid (fun (w:World) (h:RdB w (some ⟨b0,o,none⟩) 480 b)=>QfZ (some ⟨b0,o,none⟩) 480 c 28 2 b w h (by omega) (by omega) (by omega) (by omega))
 rw[←hsp.out]at hG2
 have hcl:=hid (fun (w:World) (h:RdB w (some ⟨b0,o,none⟩) 480 b)=>(⟨Qcj h 16 (by omega),Qcj h 17 (by omega),Qcj h 18 (by omega),Qcj h 19 (by omega)⟩:w.cell? ⟨b0,o+16,none⟩=some (W8 (b.getD 16 0))∧w.cell? ⟨b0,o+17,none⟩=some (W8 (b.getD 17 0))∧w.cell? ⟨b0,o+18,none⟩=some (W8 (b.getD 18 0))∧w.cell? ⟨b0,o+19,none⟩=some (W8 (b.getD 19 0))))
 have hsl:=hid (fun hs=>Qp8 b hbl hs)
 generalize parE b=E at *
 generalize parP b=PP at *
 generalize QjV b=P at *
 generalize hS:QcM b=S at *
 generalize QyM (beN (subB b 20 8) 0)=ID at *
 generalize b.getD 16 0=x16 at *
 generalize b.getD 17 0=x17 at *
 generalize b.getD 18 0=x18 at *
 generalize b.getD 19 0=x19 at *
 clear hsp hS
 have C1:=Qbh w 36 pz0
 have hb0:=Qqb
 generalize allZ (b.take 16)=F1 at *
 go_enter Tryz.func37,Tryz.ntmps37
 go_wp2_with fail
 (refine (hZ1.out _ (hb.later C1.lat)).mono ?_);rintro e w2 ⟨rfl,j2⟩
 have C2:=C1.later j2
 clear hZ1 j2 C1
 cases F1
 ·have HE:E=7:=hE.out.trans (if_pos rfl)
  have HP:PP=prt0:=by rw[hP.out,if_neg (by rw[HE];decide)]
  replace HE:=hid HE
  replace HP:=hid HP
  clear hP hE hcl hG1 hG2
  go_wp2_with (first
   | (refine Qah rfl 36 _ rfl (PaC prt0 (.slice none 0 0)) (by simp only[Qyw,QyD];exact hb0) ?_)
   | (refine Qbm rfl rfl _ _ rfl (C2.nth 0 rfl) rfl rfl rfl rfl ?_;intro e7 eb7 eo7
      have E7:=C2.write 0 rfl eo7 eb7)
   | fail)
  exact bodyPost_ret (Qaf rfl _ _ _ _ _ _ (E7.nth 0 rfl) rfl Tryz.underlying36 rfl (by rw[QaD];exact Qdf)) rfl ⟨none,0,by rw[HE.out,HP.out];rfl,by rw[HP.out];exact QaZ _ _ _,E7.lat⟩
 replace hE:=hid (hE.out.trans (if_neg (by decide)))
 obtain⟨k16,k17,k18,k19⟩:=hcl.out _ (hb.later C2.lat)
 have hb0lt:b0<w2.heap.size:=QyL hb00 C2.lat.size
 by_cases h1:x16<1∨3<x16
 ·have h13:(decide (x16<1)||decide (3<x16))=true:=by simpa using h1
  by_cases h11:x16<1
  all_goals
   have h33:x16<1∨3<x16:=h1
   simp only[h11,true_or,false_or]at h33
   have HE:E=1:=hE.out.trans (if_pos h1)
   have HP:PP=prt0:=by rw[hP.out,if_neg (by rw[HE];decide)]
   replace HE:=hid HE
   replace HP:=hid HP
   clear hP hE hcl hG1 hG2
   go_wp2_with (first
    | (refine Qah rfl 36 _ rfl (PaC prt0 (.slice none 0 0)) (by simp only[Qyw,QyD];exact hb0) ?_)
    | (refine Qbm rfl rfl _ _ rfl (C2.nth 0 rfl) rfl rfl rfl rfl ?_;intro e7 eb7 eo7
       have E7:=C2.write 0 rfl eo7 eb7)
    | fail)
   exact bodyPost_ret (Qaf rfl _ _ _ _ _ _ (E7.nth 0 rfl) rfl Tryz.underlying36 rfl (by rw[QaD];exact Qdf)) rfl ⟨none,0,by rw[HE.out,HP.out];rfl,by rw[HP.out];exact QaZ _ _ _,E7.lat⟩
 have h11: ¬x16<1:=fun h=>h1 (.inl h)
 have h13: ¬ 3<x16:=fun h=>h1 (.inr h)
 replace hE:=hid (hE.out.trans (if_neg h1))
 clear h1
 go_wp2_with fail
 (refine (hG1.out _ (hb.later C2.lat)).mono ?_);rintro e w3 ⟨rfl,j3⟩
 go_wp2_with fail
 (refine (hG2.out _ (hb.later (C2.lat.trans j3))).mono ?_);rintro e w4 ⟨rfl,j4⟩
 have C4:=(C2.later j3).later j4
 clear k16 k17 k18 k19 j3 j4 C2 hb0lt
 obtain⟨k16,k17,k18,k19⟩:=hcl.out _ (hb.later C4.lat)
 have hb0lt:b0<w4.heap.size:=QyL hb00 C4.lat.size
 obtain⟨z,hz⟩:∃z,z=QyM S:=⟨_,rfl⟩
 have hzS:z.toNat=S:=by rw[hz,QyP,QyS (by omega)]
 rw[←hz]
 clear hz
 have hlt450:(450:UInt64)<z↔450<S:=by rw[UInt64.lt_iff_toNat_lt,hzS];rfl
 by_cases hx:x19≠0∨450<S
 ·by_cases h19:x19=0
  ·have n1:(x19 != 0)=false:=by simpa using h19
   have n2:(450:UInt64)<z:=hlt450.2 (hx.resolve_left (fun f=>f h19))
   clear h19 hlt450
   have HE:E=3:=hE.out.trans (if_pos hx)
   have HP:PP=prt0:=by rw[hP.out,if_neg (by rw[HE];decide)]
   replace HE:=hid HE
   replace HP:=hid HP
   clear hP hE hcl hG1 hG2
   go_wp2_with (first
    | (refine Qah rfl 36 _ rfl (PaC prt0 (.slice none 0 0)) (by simp only[Qyw,QyD];exact hb0) ?_)
    | (refine Qbm rfl rfl _ _ rfl (C4.nth 0 rfl) rfl rfl rfl rfl ?_;intro e7 eb7 eo7
       have E7:=C4.write 0 rfl eo7 eb7)
    | fail)
   exact bodyPost_ret (Qaf rfl _ _ _ _ _ _ (E7.nth 0 rfl) rfl Tryz.underlying36 rfl (by rw[QaD];exact Qdf)) rfl ⟨none,0,by rw[HE.out,HP.out];rfl,by rw[HP.out];exact QaZ _ _ _,E7.lat⟩
  ·have n1:(x19 != 0)=true:=by simpa using h19
   clear h19 hlt450
   have HE:E=3:=hE.out.trans (if_pos hx)
   have HP:PP=prt0:=by rw[hP.out,if_neg (by rw[HE];decide)]
   replace HE:=hid HE
   replace HP:=hid HP
   clear hP hE hcl hG1 hG2
   go_wp2_with (first
    | (refine Qah rfl 36 _ rfl (PaC prt0 (.slice none 0 0)) (by simp only[Qyw,QyD];exact hb0) ?_)
    | (refine Qbm rfl rfl _ _ rfl (C4.nth 0 rfl) rfl rfl rfl rfl ?_;intro e7 eb7 eo7
       have E7:=C4.write 0 rfl eo7 eb7)
    | fail)
   exact bodyPost_ret (Qaf rfl _ _ _ _ _ _ (E7.nth 0 rfl) rfl Tryz.underlying36 rfl (by rw[QaD];exact Qdf)) rfl ⟨none,0,by rw[HE.out,HP.out];rfl,by rw[HP.out];exact QaZ _ _ _,E7.lat⟩
 have n1:(x19 != 0)=false:=by
  cases e:(x19 != 0)
  ·rfl
  ·exact absurd (.inl (by simpa using e)) hx
 have hS4:S≤450:=by omega
 have n2: ¬(450:UInt64)<z:=fun h=>by have:=hlt450.1 h;omega
 replace hE:=hid (hE.out.trans (if_neg hx))
 clear hx hlt450
 have w17:IntKind.i64.wrap (x17.toNat:Int)=(x17.toNat:Int):=by have:=x17.toNat_lt;rw[IntKind.wrap_i64];omega
 have w18:IntKind.i64.wrap (x18.toNat:Int)=(x18.toNat:Int):=by have:=x18.toNat_lt;rw[IntKind.wrap_i64];omega
 have wz:IntKind.i64.wrap (z.toNat:Int)=(S:Int):=by rw[hzS,IntKind.wrap_i64];omega
 clear hzS
 have hP0:P=⟨x16,ID,(x17.toNat:Int),(x18.toNat:Int),subB b 30 S⟩:=hOf.out
 have hdl:=hsl.out hS4
 have hCk:=hid (fun (w:World) A' c'=>Qho P A' S c' hdl w)
 have hZ2:=hid (fun (w:World) A' c' (h:RdB w A' (480-(30+S)) (b.drop (30+S)))=>Ql3 A' (480-(30+S)) c' (b.drop (30+S)) w h (by omega))
 have hR2:=hid (fun (w:World) (h:RdB w (some ⟨b0,o,none⟩) 480 b)=>(⟨fun hne:c≠30+S=>by
  have:=h.cut (k:=30+S) (c:=c) (by omega) hc
  rw[cutA,if_neg hne]at this
  rw[show some (⟨b0,o+(30+S),none⟩:Addr)=(some (⟨b0,o,none⟩:Addr)).map (·.add (30+S)) by rw[Qzz,QbM]]
  exact this,fun he:c=30+S=>⟨by rw[Qyo,QyQ];omega,fun h=>absurd h (by omega)⟩⟩:(c≠30+S→RdB w (some ⟨b0,o+(30+S),none⟩) (480-(30+S)) (b.drop (30+S)))∧(c=30+S→RdB w (some ⟨b0,o,none⟩) (480-(30+S)) (b.drop (30+S)))))
 have hCp:=hid (fun (w:World) (h:RdB w (some ⟨b0,o,none⟩) 480 b)=>Qh4 (some ⟨b0,o+30,none⟩) S (c-30) (subB b 30 S) w (by
  by_cases h0:S=0
  ·rw[h0]
   exact⟨rfl,fun h=>absurd h (by omega)⟩
  ·exact Qs8 h 30 S (by omega) (by omega)) (by omega))
 have hda:Hid (P.da=subB b 30 S):=hid (by rw[hP0])
 generalize hD:subB b 30 S=D at *
 clear hOf hD
 generalize allZ (b.drop (30+S))=F2 at *
 generalize prtE P=CE at *
 have f0:(0:Int)≤(S:Int):=by omega
 have f1:(S:Int)≤450:=by omega
 have f2:((30:Int)+(S:Int)).toNat=30+S:=by omega
 go_wp2_with fail
 have C5:=C4.drew
 have m0:=hb.later C5.lat
 refine Qad [([0,1,2,3,4,5,6,7,8,9,10,11,12],13)] [] [14] (by as_aux_lemma=>kernel_rfl) (by as_aux_lemma=>kernel_rfl) (by intro _ _ d _ _ h;cases d<;>exact h) ?_
 simp only[Qaj,pick,Qym,Qyn,Qyp,Qys,Qyr]
 repeat (first|go_big_quiet_skip|(go_big_quiet_want;(refine Qdr _ _ rfl (PaC ⟨x16,ID,(x17.toNat:Int),(x18.toNat:Int),[]⟩ (.slice none 0 0)) (by simp only[Qyw,QyJ,QyD];exact Qpf _ _ _ _) ?_);simp only[Act.put,Qyu,Qyy,Qyx];go_big_quiet_on)|(go_big_quiet_step (fail)))
 refine wpQuiet_nil ?_
 go_wp2_with fail
 try refine⟨by first|assumption|exact Qab _|exact Qaa _ _|exact Later.refl _,?_⟩
 try simp only[Qaj,pick,Qym,Qyn,Qyp,Qys,Qyr]
 repeat (go_big_quiet_step (fail))
 refine wpQuiet_nil ?_
 go_wp2_with (first
  | (refine Qbm rfl rfl _ _ rfl (Blk.new w4.drew _ pz0) rfl rfl rfl rfl ?_;intro w6 hb6 ho6
     have C6:=C5.push (Qaa _ _) (Qyv _) ho6 hb6)
  | fail)
 (refine (hCp.out _ (hb.later C6.lat)).mono ?_);rintro e w7 ⟨rfl,hb7,j7⟩
 have C7:=C6.fresh j7 (Qyv _) hb7
 have hset:Hid ((PaC ⟨x16,ID,(x17.toNat:Int),(x18.toNat:Int),[]⟩ (.slice none 0 0)).set 4 (.slice (some ⟨w6.heap.size,0,none⟩) S S)=PaC P (.slice (some ⟨w6.heap.size,0,none⟩) S S)):=hid (by rw[hP0];rfl)
 clear hb7 j7 hb6 ho6 C4 C5 hCp m0 hP0
 by_cases hc0:CE=0
 ·subst hc0
  go_wp2_with (first
   | (refine Qag rfl rfl _ _ _ rfl w4.drew.heap.size 4 _ _ (C7.nth 1 rfl) rfl (by rw[QaD];omega) rfl (by kernel_rfl) ?_;intro v8 w8 hv8 hb8 ho8;simp[go_sem]at hv8;subst hv8;rw[hset.out]at hb8
      have C8:=C7.write 1 rfl ho8 hb8)
   | (refine QdI rfl _ rfl (C8.nth 1 rfl) rfl ?_)
   | fail)
  (refine (hCk.out _ _ _).mono ?_);rintro e w9 ⟨rfl,j9⟩
  have C9:=C8.later j9
  have hR9:=hid (hR2.out _ (hb.later C9.lat))
  by_cases hcs:c=30+S
  all_goals
   have hR10:=hid (by first|exact hR9.out.2 hcs|exact hR9.out.1 hcs)
   go_wp2_with fail
   (with_reducible refine (hZ2.out _ _ _ hR10.out).mono ?_);rintro e w10 ⟨rfl,j10⟩
   have C10:=C9.later j10
   cases F2
   ·replace hE:=hid (hE.out.trans (if_pos (.inr rfl)))
    have HE:E=3:=hE.out
    have HP:PP=prt0:=by rw[hP.out,if_neg (by rw[HE];decide)]
    replace HE:=hid HE
    replace HP:=hid HP
    clear hP hE
    go_wp2_with (first
     | (refine Qah rfl 36 _ rfl (PaC prt0 (.slice none 0 0)) (by simp only[Qyw,QyD];exact hb0) ?_)
     | (refine Qbm rfl rfl _ _ rfl (C10.nth 2 rfl) rfl rfl rfl rfl ?_;intro e7 eb7 eo7
        have E7:=C10.write 2 rfl eo7 eb7)
     | fail)
    exact bodyPost_ret (Qaf rfl _ _ _ _ _ _ eb7 rfl Tryz.underlying36 rfl (by rw[QaD];exact Qdf)) rfl ⟨none,0,by rw[HE.out,HP.out];rfl,by rw[HP.out];exact QaZ _ _ _,E7.lat⟩
   ·replace hE:=hid (hE.out.trans (if_neg (by simp)))
    have HP:PP=P:=by rw[hP.out,if_pos hE.out]
    replace HP:=hid HP
    go_wp2_with (first
     | (refine QdI rfl _ rfl (C10.nth 1 rfl) rfl ?_)
     | (refine Qbm rfl rfl _ _ rfl (C10.nth 2 rfl) rfl rfl rfl rfl ?_;intro e7 eb7 eo7
        have E7:=C10.write 2 rfl eo7 eb7)
     | fail)
    refine bodyPost_ret (Qaf rfl _ _ _ _ _ _ eb7 rfl Tryz.underlying36 rfl (by rw[QaD];exact Qdf)) rfl ⟨some ⟨w6.heap.size,0,none⟩,S,by rw[hE.out,HP.out,hdl];rfl,?_,E7.lat⟩
    rw[HP.out,hda.out]
    have hDl:D.length=S:=by rw[←hda.out];exact hdl
    have:=Qdj (E7.nth 0 rfl) (E7.at_low 0 rfl) (by rw[Qyo,hDl];omega)
    rw[Qyo,hDl]at this
    rw[hDl]
    exact this
 ·have hne:((CE:Int) != 0)=true:=by simp;omega
  replace hE:=hid (hE.out.trans (if_pos (.inl hc0)))
  clear hc0
  have HE:E=3:=hE.out
  have HP:PP=prt0:=by rw[hP.out,if_neg (by rw[HE];decide)]
  replace HE:=hid HE
  replace HP:=hid HP
  clear hP hE
  go_wp2_with (first
   | (refine Qag rfl rfl _ _ _ rfl w4.drew.heap.size 4 _ _ (C7.nth 1 rfl) rfl (by rw[QaD];omega) rfl (by kernel_rfl) ?_;intro v8 w8 hv8 hb8 ho8;simp[go_sem]at hv8;subst hv8;rw[hset.out]at hb8
      have C8:=C7.write 1 rfl ho8 hb8)
   | (refine QdI rfl _ rfl (C8.nth 1 rfl) rfl ?_)
   | fail)
  (refine (hCk.out _ _ _).mono ?_);rintro e w9 ⟨rfl,j9⟩
  have C9:=C8.later j9
  go_wp2_with (first
   | (refine Qah rfl 36 _ rfl (PaC prt0 (.slice none 0 0)) (by simp only[Qyw,QyD];exact hb0) ?_)
   | (refine Qbm rfl rfl _ _ rfl (C9.nth 2 rfl) rfl rfl rfl rfl ?_;intro e7 eb7 eo7
      have E7:=C9.write 2 rfl eo7 eb7)
   | fail)
  exact bodyPost_ret (Qaf rfl _ _ _ _ _ _ eb7 rfl Tryz.underlying36 rfl (by rw[QaD];exact Qdf)) rfl ⟨none,0,by rw[HE.out,HP.out];rfl,by rw[HP.out];exact QaZ _ _ _,E7.lat⟩
end Go.Proofs.YtcbdgnlcknllnaaGreat
