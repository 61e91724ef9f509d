/-
  Lemmas for the last text of this claim (part 17 of 20).
-/
import Derived.ArgAppend
import Derived.BigQuiet
import Derived.BigRegion
import Derived.ChangeOld
import Derived.Deep.RegionWith
import Derived.DeepKeys4
import Derived.JoinedCond
import Derived.LaidMore
import Derived.Laws.BytesArg
import Derived.Laws.CopyOwn
import Derived.Laws.Externs
import Derived.Laws.IdiomStrings
import Derived.Laws.Tables
import Derived.Lib.AppendStr
import Derived.Lib.AppendZerosOnto
import Derived.Lib.Mul64
import Derived.Lib.SlBytesConst
import Derived.LoopN
import Derived.Maps.OwnSet
import Derived.OpenShut
import Derived.OrdersHeld
import Derived.ProofKit
import Derived.Shelf.Spec.BitsCarry
import Derived.ShutString
import Derived.Test.YtdhgpkdjdmlphaaGreatProg
import Derived.Test.YtdhgpkdjdmlphaaGreatRows
import Derived.WalkKit
import Derived.WalkLawsBesides
import Derived.WalkSpells
import Derived.Test.YtdhgpkdjdmlphaaGreatQB
import Derived.Test.YtdhgpkdjdmlphaaGreatQC
import Derived.Test.YtdhgpkdjdmlphaaGreatQF
import Derived.Test.YtdhgpkdjdmlphaaGreatQH
import Derived.Test.YtdhgpkdjdmlphaaGreatQI
import Derived.Test.YtdhgpkdjdmlphaaGreatQK
import Derived.Test.YtdhgpkdjdmlphaaGreatQL
import Derived.Test.YtdhgpkdjdmlphaaGreatQP
open Array renaming replicate → QDW
open Bool renaming and_eq_true → QCV
open List renaming replicate → QCA, getElem?_cons_succ → QCB, getElem?_cons_zero → QCC, length_map → QCE, cons_append → QCF, nil_append → QCG, getElem?_eq_getElem → QCH, getD_eq_getElem?_getD → QCI, setIfInBounds_toArray → QCJ, length_append → QCK, length_replicate → QCM, set_cons_zero → QCN, set_cons_succ → QCO, take_of_length_le → QCP, getElem?_append_right → QCQ, append_assoc → QCR, getElem?_map → QCS, getElem?_eq_some_iff → QCT, getElem?_append_left → QCU, map_toArray → QCW, mem_cons → QCX, not_mem_nil → QCY, length_take → QC1, map_nil → QC2, length_drop → QC3, map_cons → QC7, take_append_drop → QC9, map_replicate → QDg, length_set → QDi, take_append_of_le_length → QDk, drop_left' → QDn, range → QDq, mem_map → QDt, length_cons → QDu, all_cons → QDO, getElem?_drop → QDP, getElem?_eq_none → QDQ, take_left' → QDY, getElem_mem → QD2, singleton_append → QD6, mem_append → QD8, drop_zero → QEb, getElem?_take → QEh, drop_eq_nil_of_le → QEj, drop_drop → QEo, drop_succ_cons → QEt, getElem?_range → QEB, range_succ → QEK
open Nat renaming le_refl → QCL, mod_eq_of_lt → QCZ, lt_of_lt_of_le → QC0, le_trans → QDl, min_eq_left → QDv, lt_or_ge → QDC, mul_comm → QDE, pow_succ → QDF, mul_one → QEs, pow_zero → QEQ
open Option renaming toList_some → QCD, map_eq_some_iff → QD5, map_some → QEm, getD_some → QEF
open UInt32 renaming ofNat → QDd, ofInt → QEg
open UInt64 renaming ofNat → QC5, toNat_inj → QEr
open UInt8 renaming ofNat → QDc, ofInt → QDe, toNat_ofNat' → QDK
set_option linter.all false
namespace Go.Proofs.YtdhgpkdjdmlphaaGreat
open Go.RowKit
section
variable {P:Program} {ops:Array Oper} {rest:List Oper} {o:Oper} {a:Act} {w:World} {Q:Exit→Act→World→Prop}
theorem Qqq (hw:Region.wanted o (yielded ops a.tmps)=true) (t:TypeId) (x:Operand) (ho:o.op= .buildSlice t 1 #[(0,x)]) (e:TypeId) (sz:Nat) (z:Value) (vs:List Value) (ht:P.underlying t=some (.slice e)) (hz:(P.info? e).map (fun i=>(i.zero,i.size))=some (some z,sz)) (hs0:0<sz) (hsm:sz≤65536)
 (hbl:vs.length=sz) (hx:a.eval x= .agg vs.toArray)
 (h:wpList P ops Q rest (a.put o.dst (.slice (some ⟨w.heap.size,0,none⟩) 1 1)) (w.alloc (.cells vs.toArray e))):wpList P ops Q (o :: rest) a w:=
 BigFrame.wpList_want hw fun K hK=>by
  have hr:=Qj4 (v:=.agg vs.toArray) ht hz hs0 hsm rfl hbl w
  unfold Oper.wp
  simp only[execOp,ho,QCW,QC7,QC2,hx,Sem.run_bind,hr,Result.andThen_ok,Sem.run_pure]
  exact hK _ _ h
end
end Go.Proofs.YtdhgpkdjdmlphaaGreat
namespace Go.Proofs.YtdhgpkdjdmlphaaGreat
open Go.RowKit
open Go.BigFrame
structure Nod where
 nm:ByteArray
 id:UInt64
 priv:Y32
 pub:Y32
def Qwg:Y32:=⟨QCA 32 0,by simp⟩
def nod0:Nod:=⟨.empty,0,Qwg,Qwg⟩
def NC (x:Nod):List Value:=.string x.nm :: W64 x.id :: (x.priv.val.map W8++x.pub.val.map W8)
theorem Qa1 (x:Nod):(NC x).length=66:=by simp[NC,x.priv.2,x.pub.2]
theorem Qzk (x:Nod):∀u∈NC x,u.oneCell'=true:=by
 intro u hu
 simp only[NC,QCX,QD8,QDt]at hu
 rcases hu with rfl|rfl|⟨b,_,rfl⟩|⟨b,_,rfl⟩<;>rfl
theorem Qg0 (x:Nod) {j:Nat} {v:Value} (h:(x.priv.val.map W8)[j]?=some v):(NC x)[2+j]?=some v:=by
 have hj:j<(x.priv.val.map W8).length:=(QCT.1 h).1
 rw[NC,show 2+j=j+1+1 by omega,QCB,QCB,QCU hj]
 exact h
theorem Qwf (x:Nod) {j:Nat} {v:Value} (h:(x.pub.val.map W8)[j]?=some v):(NC x)[34+j]?=some v:=by
 have hp:(x.priv.val.map W8).length=32:=by rw[QCE,x.priv.2]
 rw[NC,show 34+j=j+32+1+1 by omega,QCB,QCB,QCQ (by omega),hp,Nat.add_sub_cancel]
 exact h
set_option maxRecDepth 100000 in
theorem QmZ (K:List UInt8) (hK:K.length=32) (w:World):
 Calls Tryz.prog 72 #[.agg (K.map W8).toArray] w fun e w'=>∃g,e= .returned (.slice (some ⟨g,0,none⟩) 32 32)∧w.heap.size≤g∧Blk w' g 5 (K.map W8)∧Later w w':=by
 have hb0:Blk (w.alloc (.cells (K.map W8).toArray 30)) w.heap.size 30 (K.map W8):=Blk.new _ _ _
 go_enter Tryz.func72,Tryz.ntmps72
 go_wp2_with (first
  | (refine Qax rfl _ _ 22 rfl 5 (.int .u8 0) 1 Tryz.underlying22 Qb4 rfl _ _ _ _ 32 rfl rfl rfl rfl (by omega) (by omega) ?_;intro w2 hb2 hl2;rw[show (w.alloc (.cells (K.map W8).toArray 30)).heap.size=w.heap.size+1 by simp]at hb2)
  | (refine Qh4 0 32 rfl _ _ _ _ rfl 5 Tryz.underlying22 Qbu (show Blk w2 (w.heap.size+1) 5 ((QCA 32 0).map W8) by (rw [QDg];exact hb2)) (Qb8 (hb0.later hl2) hK) rfl rfl (by simp) ?_;intro w3 hb3 ho3;rw[QkA _ _ (by simpa using hK)]at hb3)
  | fail)
 go_ret
 exact⟨w.heap.size+1,rfl,by omega,hb3,((Qaa _ _).trans hl2).only ho3 (by omega)⟩
section
variable {ops:Array Oper} {rest:List Oper} {o:Oper} {a:Act} {w:World} {Q:Exit→Act→World→Prop}
theorem Qg4 (hgd:Region.wanted o (yielded ops a.tmps)=true) (x:Operand) (ho:o.op= .load 30 x) {g off:Nat} {K:List UInt8} (hc:∀j v,(K.map W8)[j]?=some v→w.cell? ⟨g,off+j,none⟩=some v) (hl:K.length=32) (hx:a.eval x= .pointer (some ⟨g,off,none⟩))
 (h:wpList Tryz.prog ops Q rest (a.put o.dst (.agg (K.map W8).toArray)) w):wpList Tryz.prog ops Q (o :: rest) a w:=
 QaB hgd _ x ho g off _ hc hx _ Tryz.underlying30 rfl (by rw[QCE,hl];exact Qbd) h
end
theorem Qc9 {w:World} {b off n:Nat} {K:List UInt8} (hb:b<w.heap.size) (hc:∀j v,(K.map W8)[j]?=some v→w.cell? ⟨b,off+j,none⟩=some v) (hn:K.length=n):RdB w (some ⟨b,off,none⟩) n K:=
 ⟨by rw[QCE,hn],fun _=>⟨b,off,rfl,hb,hc⟩⟩
def pubK (K:List UInt8):List UInt8:=Qbg K (nb 9)
theorem Qnq (K:List UInt8):(pubK K).length=32:=QaP _ _
def QBJ:List UInt8:=[110,111,100,101]
def keyK (seed:List UInt8) (s:ByteArray):List UInt8:=expB (Qbb QBJ seed) (strB s) 32
theorem Qn7 (seed:List UInt8) (s:ByteArray):(keyK seed s).length=32:=Qil _ _ _
def keyY (seed:List UInt8) (s:ByteArray):Y32:=⟨keyK seed s,Qn7 seed s⟩
def pubY (K:List UInt8):Y32:=⟨pubK K,Qnq K⟩
def keyed (seed:List UInt8) (i:Nat) (s:ByteArray):Nod:=⟨s,QC5 (i+1),keyY seed s,pubY (keyK seed s)⟩
theorem Qd1 {P:Program} {t:TypeId} {d:TypeDesc} {k:Nat} {v:Value} (hu:P.underlying t=some d) (hd:QbM d=false) {zs:List Value} (hz:zs[k]?=some v) (w:World):(part t zs.toArray k).run P w= .ok v w:=by
 have ha:(isAgg t).run P w= .ok false w:=by
  unfold isAgg
  simp only[Sem.run_bind,run_underlying hu]
  cases d<;>simp_all [QbM]
 unfold part
 simp[Sem.run_bind,ha,Result.andThen_ok,hz]
theorem Qmv {P:Program} {d k:Nat} {t:TypeId} {f:Field} {fs:List Field} (hf:f.type=t) (hu:P.underlying t=some .string) (hn:f.name≠ "_") {xs ys:List Value} {p q:ByteArray} (ho:f.offset=k) (hp:xs[k]?=some (.string p)) (hq:ys[k]?=some (.string q)) (w:World):
 (Op.eqFields (d+1) xs.toArray ys.toArray (f :: fs)).run P w=if p.toList==q.toList then (Op.eqFields (d+1) xs.toArray ys.toArray fs).run P w else .ok false w:=by
 rw[Op.eqFields,if_pos hn]
 simp only[Sem.run_bind,hf,ho,Qd1 hu rfl hp,Qd1 hu rfl hq,Result.andThen_ok,run_equalIn_string w d t p q hu]
 cases p.toList==q.toList<;>simp
theorem Qk1 {P:Program} {d k:Nat} {t:TypeId} {f:Field} {fs:List Field} (hf:f.type=t) (hu:P.underlying t=some (.int .u64)) (hn:f.name≠ "_") {xs ys:List Value} {p q:UInt64} (ho:f.offset=k) (hp:xs[k]?=some (W64 p)) (hq:ys[k]?=some (W64 q)) (w:World):
 (Op.eqFields (d+1) xs.toArray ys.toArray (f :: fs)).run P w=if p==q then (Op.eqFields (d+1) xs.toArray ys.toArray fs).run P w else .ok false w:=by
 rw[Op.eqFields,if_pos hn]
 simp only[Sem.run_bind,hf,ho,Qd1 hu rfl hp,Qd1 hu rfl hq,Result.andThen_ok,QiM t _ hu d p q w]
 cases p==q<;>simp
def QpO (x y:Nod):Bool:=x.nm.toList==y.nm.toList&&(x.id==y.id&&(x.priv.val==y.priv.val&&x.pub.val==y.pub.val))
@[go_sem] theorem QyA (x:Nod):QpO x x=true:=by simp[QpO]
theorem Qlk (x:Nod):((NC x).drop 2).take 32=x.priv.val.map W8:=by
 have h1:(x.priv.val.map W8).length=32:=by rw[QCE,x.priv.2]
 rw[NC,QEt,QEt,QEb,QDY h1]
theorem Qol (x:Nod):((NC x).drop 34).take 32=x.pub.val.map W8:=by
 have h1:(x.priv.val.map W8).length=32:=by rw[QCE,x.priv.2]
 rw[NC,show (34:Nat)=32+1+1 from rfl,QEt,QEt,QDn h1,QCP (by rw[QCE,x.pub.2];omega)]
set_option maxRecDepth 100000 in
theorem Qh6 (x y:Nod) (w:World) {fs:Array Field} (hu:Tryz.prog.underlying 74=some (.struct fs)):(Op.eqFields 9999 (NC x).toArray (NC y).toArray fs.toList).run Tryz.prog w= .ok (QpO x y) w:=by
 rw[Tryz.underlying74]at hu
 cases hu
 rw[Qmv (d:=9998) (k:=0) rfl Tryz.underlying9 (by decide) rfl rfl rfl,Qk1 (d:=9998) (k:=1) rfl Tryz.underlying23 (by decide) rfl rfl rfl,
  Qb5 (d:=9997) (k:=2) rfl (by decide) rfl (Qlk x) (Qlk y) x.priv.2 y.priv.2,Qb5 (d:=9997) (k:=34) rfl (by decide) rfl (Qol x) (Qol y) x.pub.2 y.pub.2,Qc6]
 rw[QpO]
 cases x.nm.toList==y.nm.toList<;>cases x.id==y.id<;>cases x.priv.val==y.priv.val<;>cases x.pub.val==y.pub.val<;>rfl
theorem QxB:Tryz.prog.eqGuardType Tryz.prog.depth 74=false:=by kernel_rfl
@[go_sem high] theorem Qx1 (op:BinOp) (x y:Operand) (xs ys:Array Value) (w:World):(eqGuard op 74 x y (.agg xs) (.agg ys)).run Tryz.prog w= .ok () w:=run_eqGuard_agg w op _ x y xs ys QxB
set_option maxRecDepth 100000 in
@[go_sem high] theorem QxH (x y:Nod) (w:World):(binOp .eql 74 (.agg (NC x).toArray) (.agg (NC y).toArray)).run Tryz.prog w= .ok (.bool (QpO x y)) w:=by
  rw[Qgm Tryz.underlying74 (by kernel_rfl),Qh6 x y w Tryz.underlying74]
  rfl
set_option maxRecDepth 100000 in
@[go_sem high] theorem Qxm (x y:Nod) (w:World):(binOp .neq 74 (.agg (NC x).toArray) (.agg (NC y).toArray)).run Tryz.prog w= .ok (.bool (!QpO x y)) w:=by
  rw[QiC Tryz.underlying74 (by kernel_rfl),Qh6 x y w Tryz.underlying74]
  rfl
theorem QzV:(Tryz.prog.info? 74).map (·.size)=some 66:=by kernel_rfl
section
variable {ops:Array Oper} {rest:List Oper} {o:Oper} {a:Act} {w:World} {Q:Exit→Act→World→Prop}
theorem Qu1 (hgd:Region.wanted o (yielded ops a.tmps)=true) (x:Operand) (ho:o.op= .load 74 x) {g off:Nat} {y:Nod} (hc:∀i v,(NC y)[i]?=some v→w.cell? ⟨g,off+i,none⟩=some v) (hx:a.eval x= .pointer (some ⟨g,off,none⟩))
 (h:wpList Tryz.prog ops Q rest (a.put o.dst (.agg (NC y).toArray)) w):wpList Tryz.prog ops Q (o :: rest) a w:=
 QaB hgd _ x ho g off _ hc hx _ Tryz.underlying74 rfl (by rw[Qa1];exact QzV) h
end
theorem QBr:(Tryz.prog.info? 86).bind (·.zero)=some (.agg (NC nod0).toArray):=by kernel_rfl
theorem QwJ:(Tryz.prog.info? 86).map (·.size)=some 66:=by kernel_rfl
theorem QpC (l:List Value) (x:Nod) (h:l.length=66):Qaq l 0 (NC x)=NC x:=Qal _ _ (by rw[Qa1,h])
theorem QnC (x:Nod):Tryz.prog.built 86 [(0,.agg (NC x).toArray)]=some (NC x).toArray:=by
 rw[QbD (pl:=[(0,66)]) Tryz.underlying86 QBr (by kernel_rfl),Qck (vs:=NC x) (off:=0) rfl (by rw[Qa1];rfl) (by rw[Qa1,Qa1];omega),Qdv,QpC _ _ (Qa1 _)]
section
variable {ops:Array Oper} {rest:List Oper} {o:Oper} {a:Act} {w:World} {Q:Exit→Act→World→Prop}
theorem QpU (hgd:Region.wanted o (yielded ops a.tmps)=true) (x:Operand) (ho:o.op= .load 86 x) {g off:Nat} {y:Nod} (hc:∀i v,(NC y)[i]?=some v→w.cell? ⟨g,off+i,none⟩=some v) (hx:a.eval x= .pointer (some ⟨g,off,none⟩))
 (h:wpList Tryz.prog ops Q rest (a.put o.dst (.agg (NC y).toArray)) w):wpList Tryz.prog ops Q (o :: rest) a w:=
 QaB hgd _ x ho g off _ hc hx _ Tryz.underlying86 rfl (by rw[Qa1];exact QwJ) h
end
set_option maxRecDepth 100000 in
theorem Qje (x:Nod) (w:World):
 Calls Tryz.prog 60 #[.agg (NC x).toArray] w fun e w'=>∃g,e= .returned (.slice (some ⟨g,0,none⟩) 32 32)∧w.heap.size≤g∧Blk w' g 5 (x.pub.val.map W8)∧Later w w':=by
 have hb0:Blk (w.alloc (.cells (NC x).toArray 86)) w.heap.size 86 (NC x):=Blk.new _ _ _
 have hc:∀j v,(x.pub.val.map W8)[j]?=some v→(w.alloc (.cells (NC x).toArray 86)).cell? ⟨w.heap.size,34+j,none⟩=some v:=fun j v hv=>hb0.cellD _ (Qwf x hv)
 go_enter Tryz.func60,Tryz.ntmps60
 go_wp2_with (first
  | (refine Qg4 rfl _ rfl hc x.pub.2 rfl ?_)
  | fail)
 (with_reducible refine (QmZ x.pub.val x.pub.2 _).mono ?_);rintro e w2 ⟨g2,rfl,hg2,hb2,l2⟩
 go_wp2
 go_ret
 exact⟨g2,rfl,by simp at hg2;omega,hb2,(Qaa _ _).trans l2⟩
end Go.Proofs.YtdhgpkdjdmlphaaGreat
namespace Go.Proofs.YtdhgpkdjdmlphaaGreat
open Go.RowKit
structure Hp where
 nod:Nod
 delay:Int
 flags:Int
def hp0:Hp:=⟨nod0,0,0⟩
def HC (x:Hp):List Value:=NC x.nod++[.int .i64 x.delay,.int .i64 x.flags]
theorem Qa4 (x:Hp):(HC x).length=68:=by rw[HC,QCK,Qa1];rfl
theorem Qoq (x:Hp):∀u∈HC x,u.oneCell'=true:=by
 intro u hu
 rw[HC]at hu
 rcases QD8.1 hu with h|h
 ·exact Qzk _ u h
 ·simp only[QCX,QCY,or_false]at h
  rcases h with rfl|rfl<;>rfl
abbrev RdH:World→Option Addr→Nat→List Hp→Prop:=RdF HC 68 hp0
theorem QfO (x:Hp) {i:Nat} {v:Value} (h:(NC x.nod)[i]?=some v):(HC x)[i]?=some v:=by
 rw[HC,QCU (QCT.1 h).1]
 exact h
theorem Qkg (x:Hp):(HC x)[66]?=some (.int .i64 x.delay):=by
 rw[HC,QCQ (by rw[Qa1];omega),Qa1]
 rfl
theorem Qkl (x:Hp):(HC x)[67]?=some (.int .i64 x.flags):=by
 rw[HC,QCQ (by rw[Qa1];omega),Qa1]
 rfl
end Go.Proofs.YtdhgpkdjdmlphaaGreat
namespace Go.Proofs.YtdhgpkdjdmlphaaGreat
open Go.RowKit
open Go.BigFrame
end Go.Proofs.YtdhgpkdjdmlphaaGreat
namespace Go.Proofs.YtdhgpkdjdmlphaaGreat
open Go.RowKit
section
variable {vs:List Vst} {b:List UInt8} (tk:Int)
end
end Go.Proofs.YtdhgpkdjdmlphaaGreat
namespace Go.Proofs.YtdhgpkdjdmlphaaGreat
open Go.RowKit
open Go.BigFrame
def bigB:Nat→Nat→List UInt8
 | 0,_=>[]
 | w+1,n=>bigB w (n/256)++[QDc n]
theorem Qat:∀w n,(bigB w n).length=w
 | 0,_=>rfl
 | w+1,n=>by rw[bigB,QCK,Qat w];rfl
theorem QkM:∀w n,beN (bigB w n) 0=n%256^w
 | 0,n=>by rw[bigB,beN,QEQ,Nat.mod_one]
 | w+1,n=>by
   rw[bigB,Qg7,QkM w]
   show n/256%256^w*256+(QDc n).toNat=_
   rw[QDK,show 2^8=256 from rfl,QDF,QDE (256^w),Nat.mod_mul]
   omega
def encB (c:Cmd):List UInt8:=[c.kd,c.fl]++(bigB 4 c.dl.toNat++(bigB 8 c.nx.toNat++(c.ma.val++[0,0])))
theorem QcC (c:Cmd):(encB c).length=32:=by simp[encB,Qat,c.ma.2]
theorem QwO {a b:Cmd} (h1:a.kd=b.kd) (h2:a.fl=b.fl) (h3:a.dl=b.dl) (h4:a.nx=b.nx) (h5:a.ma.val=b.ma.val):a=b:=by
 cases a
 cases b
 simp only at h1 h2 h3 h4
 subst h1 h2 h3 h4
 congr
 exact Subtype.ext h5
theorem Qlg (c:Cmd):Qgg (encB c)=c:=by
 have hm:=c.ma.2
 refine QwO rfl rfl ?_ ?_ ?_
 ·show QDd (beN (subB (encB c) 2 4) 0)=c.dl
  rw[encB,Qcw _ _ _ 2 4 rfl (Qat _ _),QkM,QCZ (by have:=c.dl.toNat_lt;omega),UInt32.ofNat_toNat]
 ·show QC5 (beN (subB (encB c) 6 8) 0)=c.nx
  rw[encB,←QCR,Qcw _ _ _ 6 8 (by rw[QCK,Qat];rfl) (Qat _ _),QkM,QCZ (by have:=c.nx.toNat_lt;omega),UInt64.ofNat_toNat]
 ·rw[Qj0 _ (QcC c),encB,←QCR,←QCR,Qcw _ _ _ 14 16 (by rw[QCK,QCK,Qat,Qat];rfl) hm]
theorem Qmo (c:Cmd):(encB c).getD 30 0=0∧(encB c).getD 31 0=0:=by
 have h:encB c=([c.kd,c.fl]++bigB 4 c.dl.toNat++bigB 8 c.nx.toNat++c.ma.val)++[0,0]:=by simp[encB]
 have hl:([c.kd,c.fl]++bigB 4 c.dl.toNat++bigB 8 c.nx.toNat++c.ma.val).length=30:=by simp[Qat,c.ma.2]
 rw[h]
 constructor
 ·rw[QCI,QCQ (by omega),hl];rfl
 ·rw[QCI,QCQ (by omega),hl];rfl
theorem QoF (c:Cmd):decE (encB c)=cmdE c:=by
 rw[decE,Qlg,(Qmo c).1,(Qmo c).2,if_neg (fun h=>by have:=h.2;simp at this)]
theorem QuN (c:Cmd) (h:cmdE c=0):decC (encB c)=c:=by rw[decC,QoF,if_pos h,Qlg]
theorem Qkn (key:List UInt8) (n:Nat) (h:n≤288):chaS key n=(chaS key 288).take n:=by
 rw[QhZ key n 5 (by omega),QhZ key 288 5 (by omega),List.take_take,QDv h]
theorem QmW {p q s t:List UInt8} (h:p.length=s.length):xorB (p++q) (s++t)=xorB p s++xorB q t:=List.zipWith_append h
theorem Ql5 (p q:List UInt8) (k:Nat):(xorB p q).drop k=xorB (p.drop k) (q.drop k):=List.drop_zipWith
theorem QiK (p q:List UInt8) (k:Nat):(xorB p q).take k=xorB (p.take k) (q.take k):=List.take_zipWith
def QeZ (st:Nat→List UInt8):Nat→List UInt8
 | 0=>[]
 | k+1=>xorB (QeZ st k++QCA 48 0) ((chaS (kStr (st k)) 288).drop (288-48*(k+1)))
theorem Qdf (st:Nat→List UInt8):∀k,k≤5→(QeZ st k).length=48*k
 | 0,_=>rfl
 | k+1,h=>by
   have ih:=Qdf st k (by omega)
   rw[QeZ,QaZ (by simp[ih,QaD];omega),QC3,QaD]
   omega
def betA (n:Nat) (sl st:Nat→List UInt8):Nat→List UInt8
 | 0=>xorB (sl (n-1)++QCA (208-48*(n-1)) 0) (chaS (kStr (st (n-1))) (240-48*(n-1)))++QeZ st (n-1)
 | j+1=>xorB (sl (n-2-j)++(tagB (kMac (st (n-1-j))) (kAlp (st (n-1-j))) (betA n sl st j)++(betA n sl st j).take 192)) (chaS (kStr (st (n-2-j))) 240)
def tagA (n:Nat) (sl st:Nat→List UInt8) (j:Nat):List UInt8:=tagB (kMac (st (n-1-j))) (kAlp (st (n-1-j))) (betA n sl st j)
def hdrA (n:Nat) (sl st:Nat→List UInt8) (j:Nat):List UInt8:=kAlp (st (n-1-j))++(tagA n sl st j++betA n sl st j)
theorem Qbw (k al be:List UInt8):(tagB k al be).length=16:=by rw[tagB,QC1,QaF];rfl
section
variable {n:Nat} {sl st:Nat→List UInt8} (hn1:1≤n) (hn5:n≤5) (hsl:∀k,(sl k).length=32)
include hn1 hn5 hsl
theorem Qbx:∀j,(betA n sl st j).length=240
 | 0=>by
   have:=Qdf st (n-1) (by omega)
   rw[betA,QCK,QaZ (by rw[QCK,hsl,QCM,QaD];omega),QaD,this]
   omega
 | j+1=>by
   have ih:=Qbx j
   rw[betA,QaZ (by rw[QCK,hsl,QCK,Qbw,QC1,ih,QaD];omega),QaD]
theorem Qps (j:Nat):xorB (betA n sl st (j+1)) (chaS (kStr (st (n-2-j))) 240)=sl (n-2-j)++(tagA n sl st j++(betA n sl st j).take 192):=by
 have ih:=Qbx (st:=st) hn1 hn5 hsl j
 rw[betA,Qet (by rw[QCK,hsl,QCK,Qbw,QC1,ih,QaD];omega)]
 rfl
theorem QmD:∀j,j+1≤n→(betA n sl st j).drop (240-48*(n-1-j))=QeZ st (n-1-j)
 | 0,_=>by
   rw[betA,Nat.sub_zero,QDn (by rw[QaZ (by rw[QCK,hsl,QCM,QaD];omega),QaD])]
 | j+1,hj=>by
   have ih:=QmD j (by omega)
   have hbl:=Qbx (st:=st) hn1 hn5 hsl j
   obtain⟨i,hi⟩:∃i,i=n-2-j:=⟨_,rfl⟩
   have hi1:n-1-j=i+1:=by omega
   have hi2:n-1-(j+1)=i:=by omega
   have hfl:=Qdf st i (by omega)
   rw[hi1]at ih
   have hX:(chaS (kStr (st i)) 240).drop (240-48*i)=((chaS (kStr (st i)) 288).drop (240-48*i)).take (48*i):=by
    rw[Qkn _ 240 (by omega),List.drop_take,show 240-(240-48*i)=48*i by omega]
   have hB:((betA n sl st j).take 192).drop (192-48*i)=xorB (QeZ st i) (((chaS (kStr (st i)) 288).drop (240-48*i)).take (48*i)):=by
    rw[List.drop_take,show 192-(192-48*i)=48*i by omega,show 192-48*i=240-48*(i+1) by omega,ih,QeZ,QiK,QDY hfl,show 288-48*(i+1)=240-48*i by omega]
   have hcut:(sl i++(tagB (kMac (st (n-1-j))) (kAlp (st (n-1-j))) (betA n sl st j)++(betA n sl st j).take 192)).drop (240-48*i)=((betA n sl st j).take 192).drop (192-48*i):=by
    rw[←QCR,List.drop_append,QEj (by rw[QCK,hsl,Qbw];omega),QCG,QCK,hsl,Qbw,show 240-48*i-(32+16)=192-48*i by omega]
   rw[hi2,betA,←hi,Ql5,hcut,hB,hX,Qet (by rw[hfl,QC1,QC3,QaD];omega)]
theorem QkK (j:Nat) (ha:(kAlp (st (n-1-j))).length=32):subB (hdrA n sl st j) 0 32=kAlp (st (n-1-j))∧subB (hdrA n sl st j) 32 16=tagA n sl st j∧subB (hdrA n sl st j) 48 240=betA n sl st j:=by
 have ht:(tagA n sl st j).length=16:=Qbw _ _ _
 have hb:=Qbx (st:=st) hn1 hn5 hsl j
 refine⟨QjO _ _ _ ha,Qcw _ _ _ _ _ ha ht,?_⟩
 rw[hdrA,←QCR,QmG _ _ _ _ (by rw[QCK,ha,ht]) hb]
theorem Qnl (j:Nat) (ha:(kAlp (st (n-1-j))).length=32):(hdrA n sl st j).length=288:=by
 have hb:=Qbx (st:=st) hn1 hn5 hsl j
 rw[hdrA,QCK,QCK,ha,hb,tagA,Qbw]
theorem QwW (j:Nat) (ha:(kAlp (st (n-1-j))).length=32):QgG (hdrA n sl st j) (st (n-1-j))=true:=by
 obtain⟨h1,h2,h3⟩:=QkK (sl:=sl) hn1 hn5 hsl j ha
 rw[QgG,h1,h2,h3]
 exact decide_eq_true rfl
theorem Qun (ha:(kAlp (st (n-1))).length=32):(Qcr (hdrA n sl st 0) (st (n-1))).take 32=sl (n-1):=by
 have h3:=(QkK (sl:=sl) hn1 hn5 hsl 0 (by rw[Nat.sub_zero];exact ha)).2.2
 have hb:=Qbx (st:=st) hn1 hn5 hsl 0
 rw[Qcr,h3,QiK,QDk (by omega),betA]
 have h1:(xorB (sl (n-1)++QCA (208-48*(n-1)) 0) (chaS (kStr (st (n-1))) (240-48*(n-1)))).length=240-48*(n-1):=by
  rw[QaZ (by rw[QCK,hsl,QCM,QaD];omega),QaD]
 rw[QDk (by rw[h1];omega),QiK,QDY (hsl _),Qkn _ (240-48*(n-1)) (by omega),List.take_take,QDv (by omega)]
 exact Qet (by rw[hsl,QC1,QaD];omega)
theorem QtC (j:Nat) (hj:j+1<n) (ha:(kAlp (st (n-1-(j+1)))).length=32):Qcr (hdrA n sl st (j+1)) (st (n-1-(j+1)))=sl (n-1-(j+1))++(tagA n sl st j++betA n sl st j):=by
 have h3:=(QkK (sl:=sl) hn1 hn5 hsl (j+1) ha).2.2
 have hb:=Qbx (st:=st) hn1 hn5 hsl j
 have hb1:=Qbx (st:=st) hn1 hn5 hsl (j+1)
 have hf:=QmD (st:=st) hn1 hn5 hsl j (by omega)
 obtain⟨i,hi⟩:∃i,i=n-2-j:=⟨_,rfl⟩
 have hi1:n-1-j=i+1:=by omega
 have hi2:n-1-(j+1)=i:=by omega
 have hfl:=Qdf st i (by omega)
 have hpl:=Qps (st:=st) hn1 hn5 hsl j
 rw[hi1]at hf
 rw[←hi]at hpl
 rw[hi2]
 rw[Qcr,h3]
 have hS:chaS (kStr (st i)) 288=chaS (kStr (st i)) 240++(chaS (kStr (st i)) 288).drop 240:=by rw[Qkn _ 240 (by omega),QC9]
 have hd:(betA n sl st j).drop 192=(chaS (kStr (st i)) 288).drop 240:=by
  have h4:(betA n sl st j).drop 192=(QeZ st (i+1)).drop (48*i):=by rw[←hf,QEo,show 240-48*(i+1)+48*i=192 by omega]
  rw[h4,QeZ,Ql5,QDn hfl,QEo,show 288-48*(i+1)+48*i=240 by omega,QgL _ _ (by rw[QC3,QaD])]
 rw[hS,QmW (by rw[hb1,QaD]),hpl,QgL _ _ (by rw[QC3,QaD]),QCR,QCR,←hd,QC9]
end
theorem Qkz (d:Int) (h0:0≤d) (h1:d<4294967296):((QEg d).toNat:Int)=d:=by
 rw[QlH]
 omega
def QeY (p:Prt):List UInt8:=QCA 16 0++([p.kd,QDe p.ix,QDe p.ct,0]++(bigB 8 p.id.toNat++(bigB 2 p.da.length++(p.da++QCA (450-p.da.length) 0))))
theorem Qfb (p:Prt) (h:p.da.length≤450):(QeY p).length=480:=by
 simp[QeY,Qat]
 omega
theorem QiI {p:Prt} (h:prtE p=0): ¬(p.kd<1∨3<p.kd)∧p.da.length≤450∧1≤p.ct∧p.ct≤16∧0≤p.ix∧p.ix<p.ct:=by
 unfold prtE at h
 split at h
 ·cases h
 ·rename_i h1
  split at h
  ·cases h
  ·rename_i h2
   split at h
   ·cases h
   ·rename_i h3
    exact⟨h1,by omega,by omega,by omega,by omega,by omega⟩
def ctOf (ks:List Prt):Int:=(ks.getLast?.map (·.ct)).getD 0
def hvOf (ks:List Prt):List Bool:=(QDq 16).map fun (i:Nat)=>ks.any (fun q=>q.ix==(i:Int))
def MsC (id:UInt64) (ks:List Prt) (pv:List Value):List Value:=W64 id :: .int .i64 (ctOf ks) :: .int .i64 (ks.length:Nat) :: ((hvOf ks).map Value.bool++pv)
def PieceAt (w:World) (base:Nat) (v:Value) (da:List UInt8):Prop:=(v= .slice none 0 0∧da=[])∨∃gp,v= .slice (some ⟨gp,0,none⟩) da.length da.length∧base≤gp∧Blk w gp 5 (da.map W8)
structure MsgAt (w:World) (base g:Nat) (id:UInt64) (ks:List Prt) (pv:List Value):Prop where
 blk:Blk w g 204 (MsC id ks pv)
 low:base≤g
 len:pv.length=16
 pcs:∀i v,pv[i]?=some v→PieceAt w base v (daAt ks i)
section
variable {w w':World} {base g:Nat} {id:UInt64} {ks:List Prt} {pv:List Value}
theorem PieceAt.later {v:Value} {da:List UInt8} (h:PieceAt w base v da) (hl:Later w w'):PieceAt w' base v da:=
 h.imp (fun h=>h) fun ⟨gp,h1,h2,h3⟩=>⟨gp,h1,h2,h3.later hl⟩
theorem PieceAt.only {v:Value} {da:List UInt8} {t:TypeId} {l:List Value} (h:PieceAt w base v da) (hg:Blk w g t l) (hne:t≠5) (ho:Only g w w'):PieceAt w' base v da:=
 h.imp (fun h=>h) fun ⟨gp,h1,h2,h3⟩=>⟨gp,h1,h2,h3.only ho (fun e=>by
  subst e
  have:=hg.symm.trans h3
  simp only[Option.some.injEq,Obj.cells.injEq]at this
  exact hne this.2.1)⟩
theorem MsgAt.later (h:MsgAt w base g id ks pv) (hl:Later w w'):MsgAt w' base g id ks pv:=⟨h.blk.later hl,h.low,h.len,fun i v hv=>(h.pcs i v hv).later hl⟩
theorem MsgAt.cells (h:MsgAt w base g id ks pv):w.cell? ⟨g,0,none⟩=some (W64 id)∧w.cell? ⟨g,1,none⟩=some (.int .i64 (ctOf ks))∧w.cell? ⟨g,2,none⟩=some (.int .i64 (ks.length:Nat)):=
 ⟨h.blk.cellD 0 rfl,h.blk.cellD 1 rfl,h.blk.cellD 2 rfl⟩
end
theorem KeptOk.ct {ks:List Prt} (h:KeptOk ks) (hne:ks≠[]):1≤ctOf ks∧ctOf ks≤16∧(ks.length:Int)≤ctOf ks∧∀q∈ks,q.ct=ctOf ks:=by
 have hl:ks.getLast?=some (ks.getLast hne):=List.getLast?_eq_some_getLast hne
 have hm:=List.getLast_mem hne
 generalize ks.getLast hne=l at hl hm
 have hc:ctOf ks=l.ct:=by rw[ctOf,hl];rfl
 obtain⟨h1,h2,_⟩:=Qrd (h.good l hm).2
 have hs:∀q∈ks,q.ct=l.ct:=fun q hq=>h.same q hq l hm
 rw[hc]
 exact⟨h1,h2,h.le hs (by omega),hs⟩
end Go.Proofs.YtdhgpkdjdmlphaaGreat
namespace Go.Proofs.YtdhgpkdjdmlphaaGreat
open Go.RowKit Go.Maps
def ptrV:Option Nat→Value
 | none=>.pointer none
 | some b=>.pointer (some ⟨b,0,none⟩)
def ptrD:Option Nat→DataW Unit
 | none=>.lit (.bool false)
 | some b=>.lit (.int .i64 b)
def ptrR (v:Value):Option (DataW Unit×List MemPlace):=
 match v with
 | .pointer none=>some (ptrD none,[])
 | .pointer (some ⟨b,0,none⟩)=>some (ptrD (some b),[])
 | _=>none
theorem QxE (x:Option Nat):ptrR (ptrV x)=some (ptrD x,[]):=by cases x<;>rfl
structure PKey (P:Program) (k:TypeId) (α:Type) where
 kv:α→Value
 kl:α→Lit
 ok:∀x,keyOf P k (kv x)=some (kl x)
 inj:∀x y,kv x=kv y→x=y
 law:Keyed P k
def PMap {P:Program} {k:TypeId} {α:Type} (w:World) (K:PKey P k α) (b n:Nat) (f:α→Option Nat):Prop:=
 ∃D:DataW Unit,w.ownsMap P k ptrR b n D∧∀x,D.atKey (K.kl x) (ptrD none)=ptrD (f x)
section
variable {P:Program} {k t e:TypeId} {α:Type} {w w':World} {K:PKey P k α} {b n:Nat} {f:α→Option Nat}
theorem PKey.kl_inj (K:PKey P k α) {x y:α} (h:K.kl x=K.kl y):x=y:=K.inj x y (K.law.inj (K.ok x) (h ▸ K.ok y))
theorem PMap.made (w:World) (K:PKey P k α):PMap (w.alloc (.map #[] 0)) K w.heap.size 0 (fun _=>none):=⟨_,World.ownsMap_made w P k ptrR,fun _=>rfl⟩
theorem PMap.only (h:PMap w K b n f) {g:Nat} (ho:Only g w w') (hne:b≠g):PMap w' K b n f:=by
 obtain⟨D,h1,h2⟩:=h
 exact⟨D,h1.kept ho (by simpa using hne),h2⟩
theorem PMap.grown (h:PMap w K b n f) {row:Option Nat} (ho:w.grownBy w' row) (hne:some b≠row):PMap w' K b n f:=by
 obtain⟨D,h1,h2⟩:=h
 exact⟨D,h1.kept ho hne,h2⟩
theorem PMap.lt (h:PMap w K b n f):b<w.heap.size:=let ⟨_,h1,_⟩:=h;h1.lt
theorem PMap.later (h:PMap w K b n f) (hl:Later w w'):PMap w' K b n f:=by
 refine h.only (hl.onlyAny (b+1)) (by omega)
theorem PMap.put [DecidableEq α] (h:PMap w K b n f) (ht:P.underlying t=some (.map k e)) (hn:n<maxLen) (x:α) (g:Nat):
 ∃w',(Instr.mapUpdate t (.map (some b)) (K.kv x) (.pointer (some ⟨g,0,none⟩))).run P w= .ok () w'∧PMap w' K b (n+1) (fun y=>if y=x then some g else f y)∧Only b w w':=by
 obtain⟨D,h1,h2⟩:=h
 obtain⟨w',hrun,h3,h4⟩:=h1.update K.law ht hn (K.ok x) (QxE (some g))
 refine⟨w',hrun,⟨_,h3,fun y=>?_⟩,h4⟩
 by_cases hyx:y=x
 ·subst hyx
  simp only[if_true]
  exact atKey_put_same h1.isMap (K.law.key (K.ok y)) _ _
 ·simp only[hyx,if_false]
  rw[atKey_put_other (fun hc=>hyx (K.kl_inj hc))]
  exact h2 y
variable {ops:Array Oper} {rest:List Oper} {o:Oper} {a:Act} {Q:Exit→Act→World→Prop}
end
theorem QyZ:(199:Nat)<Tryz.prog.types.size:=of_decide_eq_true (by kernel_rfl)
theorem QyR:Tryz.prog.keyTypeAt (Tryz.prog.types.size+1) 199=true:=by kernel_rfl
theorem Qzf:(match Tryz.prog.underlying 199 with|some (.array _ _)|some (.struct _)=>true|_=>false)=true:=by kernel_rfl
theorem Qzw:laidOutB Tryz.prog=true:=by kernel_rfl
set_option maxRecDepth 100000 in
theorem QB5:Keyed Tryz.prog 199:=Keyed.of_law (deep_law_laid Qzw (m:=3) (by omega) QyZ (by kernel_rfl) Qzf)
theorem Qrm:Tryz.prog.cellsOf 199=2:=by kernel_rfl
theorem QwP:Tryz.prog.cellsOf 23=1:=by kernel_rfl
theorem wf64 (x:UInt64):(Lit.int .u64 (x.toNat:Int)).wf=true:=by
 have:=x.toNat_lt
 simp[Lit.wf,IntKind.min,IntKind.max,IntKind.signed,IntKind.bits]
 omega
theorem QrH (d:Nat) (x:UInt64):Tryz.prog.keyLits (d+1) 23 [W64 x]=some [.int .u64 (x.toNat:Int)]:=by
 unfold Program.keyLits
 rw[Tryz.underlying23]
 simp[W64,wf64]
theorem Qrw (d:Nat) (x y:UInt64):Tryz.prog.keyLits (d+2) 199 [W64 x,W64 y]=some [.int .u64 (x.toNat:Int),.int .u64 (y.toNat:Int)]:=by
 unfold Program.keyLits
 rw[Tryz.underlying199]
 simp[Qrm,QwP,QrH]
def QyL:PKey Tryz.prog 199 (UInt64×UInt64) where
 kv x:=.agg #[W64 x.1,W64 x.2]
 kl x:=.string (keyBytes [.int .u64 (x.1.toNat:Int),.int .u64 (x.2.toNat:Int)])
 ok x:=by
  have hf:(Value.agg #[W64 x.1,W64 x.2]).formed Tryz.prog 199=true:=by
   simp[Value.formed,Tryz.underlying199,Qrm]
  unfold keyOf
  rw[Tryz.underlying199]
  have hk:Tryz.prog.keyType 199=true:=QyR
  obtain⟨d,hd⟩:∃d,Tryz.prog.types.size+1=d+2:=⟨Tryz.prog.types.size-1,by have:=QyZ;omega⟩
  simp only[hk,hf,Bool.and_self,if_true,hd]
  show (Tryz.prog.keyLits (d+2) 199 [W64 x.1,W64 x.2]).map _=_
  rw[Qrw]
  rfl
 inj x y h:=by
  have h1:[W64 x.1,W64 x.2]=[W64 y.1,W64 y.2]:=congrArg Array.toList (Value.agg.inj h)
  have h2:W64 x.1=W64 y.1:=(List.cons.inj h1).1
  have h3:W64 x.2=W64 y.2:=(List.cons.inj (List.cons.inj h1).2).1
  have e:∀a b:UInt64,W64 a=W64 b→a=b:=fun a b h=>by
   have:(a.toNat:Int)=b.toNat:=by simpa [W64] using h
   exact QEr.1 (by omega)
  exact Prod.ext (e _ _ h2) (e _ _ h3)
 law:=QB5
end Go.Proofs.YtdhgpkdjdmlphaaGreat
namespace Go.Proofs.YtdhgpkdjdmlphaaGreat
open Go.RowKit
open Go.BigFrame
theorem KeptOk.small {ks:List Prt} (h:KeptOk ks):ks.length≤16:=by
 by_cases hne:ks=[]
 ·simp[hne]
 ·have:=h.ct hne
  omega
structure Ltv where
 lt:Ltr
 va:Option Addr
 vn:Nat
 vc:Nat
def LtC (y:Ltv):List Value:=[W64 y.lt.to,W64 y.lt.id,.int .i64 y.lt.tk,.slice y.va y.vn y.vc]
section
variable {w w':World} {base sz n:Nat} {e:TypeId} {v:Value} {vs:List Value}
theorem Qlh {k:Nat} {es:Array MapEntry} {ck:Nat} (h:w.ownsRow base e sz v n vs) (hb:w.heap[k]?=some (.map es ck)) (ho:Only k w w'):w'.ownsRow base e sz v n vs:=by
 refine h.kept ho ?_
 rcases h.2 with ⟨rfl,_⟩|⟨g2,c2,cur2,rfl,_,hh2,_⟩
 ·exact .inl rfl
 ·refine .inr ?_
  intro hc
  have:k=g2:=by simpa [Value.ownBlock] using hc.symm
  subst this
  rw[hb]at hh2
  cases hh2
theorem QlX {k g:Nat} {t:TypeId} {l:List Value} {es:Array MapEntry} {ck:Nat} (h:Blk w g t l) (hb:w.heap[k]?=some (.map es ck)) (ho:Only k w w'):Blk w' g t l:=by
 refine h.only ho fun e=>?_
 subst e
 rw[Blk,hb]at h
 cases h
end
structure LSt (w wr:World) (bm n:Nat) (f:UInt64×UInt64→Option Nat) (K:UInt64×UInt64→List Prt) (v3:Value) (ys:List Ltv):Prop where
 lat:Later w wr
 map:PMap wr QyL bm n f
 low:w.heap.size≤bm
 msg:∀x g,f x=some g→∃pv,MsgAt wr w.heap.size g x.2 (K x) pv
 non:∀x,f x=none→K x=[]
 inj:∀x y g,f x=some g→f y=some g→x=y
 own:wr.ownsRow w.heap.size 140 4 v3 ys.length (ys.flatMap LtC)
 txt:∀y∈ys,OwnB wr w.heap.size y.va y.vn y.vc y.lt.tx
section
variable {w wr w':World} {bm n:Nat} {f:UInt64×UInt64→Option Nat} {K:UInt64×UInt64→List Prt} {v3:Value} {ys:List Ltv}
theorem PMap.obj {P:Program} {k:TypeId} {α:Type} {w:World} {M:PKey P k α} {b n:Nat} {f:α→Option Nat} (h:PMap w M b n f):∃es ck,w.heap[b]?=some (.map es ck):=by
 obtain⟨_,⟨es,ck,h1,_⟩,_⟩:=h
 exact⟨es,ck,h1⟩
theorem LSt.later (h:LSt w wr bm n f K v3 ys) (hl:Later wr w'):LSt w w' bm n f K v3 ys:=
 ⟨h.lat.trans hl,h.map.later hl,h.low,fun x g hx=>(h.msg x g hx).imp fun _ hm=>hm.later hl,h.non,h.inj,Qft h.own hl,fun y hy=>Qbo (h.txt y hy) hl⟩
theorem MsgAt.onlyM {base g k:Nat} {id:UInt64} {ks:List Prt} {pv:List Value} {es:Array MapEntry} {ck:Nat} (h:MsgAt wr base g id ks pv) (hb:wr.heap[k]?=some (.map es ck)) (ho:Only k wr w'):MsgAt w' base g id ks pv:=
 ⟨QlX h.blk hb ho,h.low,h.len,fun i v hv=>(h.pcs i v hv).imp (fun h=>h) fun ⟨gp,h1,h2,h3⟩=>⟨gp,h1,h2,QlX h3 hb ho⟩⟩
theorem MsgAt.grown {base g b sz m:Nat} {e:TypeId} {v:Value} {vs:List Value} {id:UInt64} {ks:List Prt} {pv:List Value} (h:MsgAt wr base g id ks pv) (hr:wr.ownsRow b e sz v m vs) (h1:(204:TypeId)≠e) (h2:(5:TypeId)≠e) (hg:wr.grownBy w' v.ownBlock):MsgAt w' base g id ks pv:=
 ⟨QcT h.blk hr h1 hg,h.low,h.len,fun i v hv=>(h.pcs i v hv).imp (fun h=>h) fun ⟨gp,k1,k2,k3⟩=>⟨gp,k1,k2,QcT k3 hr h2 hg⟩⟩
theorem LSt.put (h:LSt w wr bm n f K v3 ys) {x0:UInt64×UInt64} {g:Nat} {pv:List Value} (hx:f x0=none) (hm:MsgAt wr w.heap.size g x0.2 [] pv) (hf:∀x,f x≠some g) (hp:PMap w' QyL bm (n+1) (fun x=>if x=x0 then some g else f x)) (ho:Only bm wr w'):
 LSt w w' bm (n+1) (fun x=>if x=x0 then some g else f x) K v3 ys:=by
 obtain⟨es,ck,hb⟩:=h.map.obj
 refine⟨h.lat.only ho h.low,hp,h.low,fun x g' hx'=>?_,fun x hx'=>?_,fun x y g' hx' hy'=>?_,Qlh h.own hb ho,fun y hy=>?_⟩
 ·by_cases hxx:x=x0
  ·subst hxx
   simp only[if_true,Option.some.injEq]at hx'
   subst hx'
   exact⟨pv,by rw[h.non x hx];exact hm.onlyM hb ho⟩
  ·simp only[hxx,if_false]at hx'
   exact (h.msg x g' hx').imp fun _ hm=>hm.onlyM hb ho
 ·by_cases hxx:x=x0
  ·subst hxx
   simp at hx'
  ·simp only[hxx,if_false]at hx'
   exact h.non x hx'
 ·by_cases hxx:x=x0<;>by_cases hyy:y=x0
  ·exact hxx.trans hyy.symm
  ·simp only[hxx,hyy,if_true,if_false,Option.some.injEq]at hx' hy'
   subst hx'
   exact absurd hy' (hf y)
  ·simp only[hxx,hyy,if_true,if_false,Option.some.injEq]at hx' hy'
   subst hy'
   exact absurd hx' (hf x)
  ·simp only[hxx,hyy,if_false]at hx' hy'
   exact h.inj x y g' hx' hy'
 ·exact Qlh (h.txt y hy) hb ho
end
structure Arw where
 ar:Arr
 va:Option Addr
 vn:Nat
 vc:Nat
section
variable {P:Program} {ops:Array Oper} {rest:List Oper} {o:Oper} {a:Act} {w:World} {Q:Exit→Act→World→Prop}
end
end Go.Proofs.YtdhgpkdjdmlphaaGreat
namespace Go.Proofs.YtdhgpkdjdmlphaaGreat
open Go.BigFrame
open Go.RowKit
section
variable {P:Program} {ops:Array Oper} {Q:Exit→Act→World→Prop} {T:World→Prop}
def wpS (P:Program) (ops:Array Oper) (Q:Exit→Act→World→Prop) (T:World→Prop):List (Nat×Bool)→Act→World→Prop
 | [],a,w=>Q .normal a w
 | (i,true) :: r,a,w=>∃o,ops[i]?=some o∧if Region.wanted o (yielded ops a.tmps) then o.quiet P a T (fun a'=>wpS P ops Q T r a' w) else wpS P ops Q T r (a.put o.dst undef) w
 | (i,false) :: r,a,w=>wpOp P ops Q i (fun a' w'=>T w'∧wpS P ops Q T r a' w') a w
def Qnf (ops:Array Oper):List (Nat×Bool)→Array Bool→Bool
 | [],listed=>(Region.ready .any ops listed).isEmpty
 | (i,true) :: r,listed=>(Region.ready .any ops listed).contains i&&Region.free .any ops listed i&&((ops[i]?).map calm).getD false&&Qnf ops r (listed.setIfInBounds i true)
 | (i,false) :: r,listed=>decide (Region.ready .any ops listed=[i])&&Qnf ops r (listed.setIfInBounds i true)
theorem simS (hsel:∀(j:Nat) (o:Oper) cs b,ops[j]?=some o→o.op≠ .select cs b) (hQ1:∀c a d v w,Q (.panic c) (a.put d v) w→Q (.panic c) a w):
 ∀(l:List (Nat×Bool)) (listed:Array Bool) (a:Act) (w:World),Qnf ops l listed=true→T w→wpS P ops Q T l a w→Qhp P ops Q T l.length listed a w
 | [],listed,a,w,hB,_,h=>⟨by simpa [Qnf] using hB,h⟩
 | (i,true) :: r,listed,a,w,hB,hT,h=>by
   simp only[Qnf,QCV]at hB
   obtain⟨⟨⟨hrd,hf⟩,hcm⟩,hok⟩:=hB
   obtain⟨o,ho,h⟩:=h
   have hri:i∈Region.ready .any ops listed:=by simpa using hrd
   have hcm':calm o=true:=by simpa [ho] using hcm
   have next:∀v,YieldsIf P ops T o v a→wpS P ops Q T r (a.put o.dst v) w→Qhp P ops Q T (r.length+1) listed a w:=fun v hy hnx=>
    Qhi ho hsel (fun c a w=>hQ1 c a _ _ w) r.length listed a w (Region.free_spec ho hf) hri hy hT (simS hsel hQ1 r _ _ w hok hT hnx)
   by_cases hw:Region.wanted o (yielded ops a.tmps)=true
   ·rw[if_pos hw]at h
    obtain⟨v,hy,hnx⟩:=Qcb hcm' hw h
    exact next v hy hnx
   ·rw[if_neg hw]at h
    exact next undef (.inr ⟨by simpa using hw,rfl⟩) h
 | (i,false) :: r,listed,a,w,hB,hT,h=>by
   simp only[Qnf,QCV,decide_eq_true_eq]at hB
   obtain⟨hrd,hok⟩:=hB
   refine⟨fun he=>(by rw[hrd]at he;cases he),fun j hj=>?_⟩
   rw[hrd]at hj
   obtain rfl:j=i:=by simpa using hj
   exact wpOp_mono (fun a' w' h'=>⟨h'.1,simS hsel hQ1 r _ a' w' hok h'.1 h'.2⟩) h
def QeJ (P:Program) (l:List Oper) (Q:Exit→Act→World→Prop) (T:World→Prop) (qs:List Nat):List (List Nat×Nat)→Act→World→Prop
 | [],a,w=>wpQuiet P l.toArray T (fun a'=>wpList P l.toArray Q [] a' w) (pick l qs) a
 | (q,i) :: r,a,w=>wpQuiet P l.toArray T (fun a'=>wpList P l.toArray (Exit.then (fun a'' w''=>T w''∧QeJ P l Q T qs r a'' w'') Q) (pick l [i]) a' w) (pick l q) a
theorem Qfy {l:List Oper} {Qa:Act→Prop} {r:List (Nat×Bool)} {w:World} (hQa:∀a,Qa a→wpS P l.toArray Q T r a w):∀(qs:List Nat),(qs.all fun i=>decide (i<l.length))=true→
 ∀a,wpQuiet P l.toArray T Qa (pick l qs) a→wpS P l.toArray Q T (qs.map (·,true)++r) a w
 | [],_,a,h=>hQa a h
 | i :: qs,hb,a,h=>by
   simp only[QDO,QCV,decide_eq_true_eq]at hb
   have hi:l[i]?=some (l[i]'hb.1):=QCH hb.1
   refine⟨l[i]'hb.1,by simp[hb.1],?_⟩
   simp only[pick,hi,QCD,QD6,wpQuiet]at h
   by_cases hw:Region.wanted (l[i]'hb.1) (yielded l.toArray a.tmps)=true
   ·rw[if_pos hw]at h ⊢
    exact Oper.quiet_mono (fun a' h'=>Qfy hQa qs hb.2 a' h') h
   ·rw[if_neg hw]at h ⊢
    exact Qfy hQa qs hb.2 _ h
def QqL (qs:List Nat):List (List Nat×Nat)→List (Nat×Bool)
 | []=>qs.map (·,true)++[]
 | (q,i) :: r=>q.map (·,true)++((i,false) :: QqL qs r)
def QsC (l:List Oper) (qs:List Nat) (segs:List (List Nat×Nat)):Bool:=
 Region.noSelect l.toArray&&(qs.all fun i=>decide (i<l.length))&&(segs.all fun s=>decide (s.2<l.length)&&s.1.all fun i=>decide (i<l.length)) &&
 Qnf l.toArray (QqL qs segs) (QDW l.length false)&&decide ((QqL qs segs).length=l.length)
theorem QjB {l:List Oper} {qs:List Nat} (hq:(qs.all fun i=>decide (i<l.length))=true):
 ∀(segs:List (List Nat×Nat)),(segs.all fun s=>decide (s.2<l.length)&&s.1.all fun i=>decide (i<l.length))=true→∀a w,QeJ P l Q T qs segs a w→wpS P l.toArray Q T (QqL qs segs) a w
 | [],_,a,w,h=>Qfy (fun a h=>h) qs hq a h
 | (q,i) :: r,hb,a,w,h=>by
   simp only[QDO,QCV,decide_eq_true_eq]at hb
   refine Qfy (fun a h=>?_) q hb.1.2 a h
   exact wpOp_mono (fun a' w' h'=>⟨h'.1,QjB hq r hb.2 a' w' h'.2⟩) (Qb7 hb.1.1 h)
theorem QhA {id:Nat} {a:Act} {w:World} {l:List Oper} (T:World→Prop) (segs:List (List Nat×Nat)) (qs:List Nat) (hm:P.follows .mixedOrders=true) (hB:QsC l qs segs=true)
 (hQ:∀c a d v w,Q (.panic c) (a.put d v) w→Q (.panic c) a w) (h:T w.drew∧QeJ P l Q T qs segs a w.drew):(Code.region id l.toArray true).wp P Q a w:=by
 simp only[QsC,QCV,decide_eq_true_eq]at hB
 obtain⟨⟨⟨⟨hs,hq⟩,hsg⟩,hsq⟩,hlen⟩:=hB
 refine wp_region_any hm (QgO (T:=T) _ _ _ _ ?_)
 have:=simS (P:=P) (Q:=Q) (T:=T) (Region.noSelect_spec hs) hQ (QqL qs segs) (QDW l.length false) a w.drew hsq h.1 (QjB hq segs hsg a _ h.2)
 rw[hlen]at this
 simpa using this
end
theorem Spared.later {w w1 w2:World} {bad:List Nat} (h:Spared w bad w1) (hl:Later w1 w2):Spared w bad w2:=
 ⟨QDl h.1 hl.size,fun b hb hn=>(hl.below.block b (QC0 hb h.1)).trans (h.2 b hb hn)⟩
theorem Spared.grown {w w1 w2:World} {bad:List Nat} {row:Option Nat} (h:Spared w bad w1) (hg:w1.grownBy w2 row) (hr:∀k,row=some k→w.heap.size≤k):Spared w bad w2:=
 ⟨QDl h.1 hg.size,fun b hb hn=>(hg.block b (QC0 hb h.1) (fun e=>by have:=hr b e.symm;omega)).trans (h.2 b hb hn)⟩
theorem Spared.fresh {w w1 w2:World} {bad:List Nat} {g:Nat} (h:Spared w bad w1) (ho:Only g w1 w2) (hg:w.heap.size≤g):Spared w bad w2:=
 h.grown ho (fun k e=>by cases e;exact hg)
end Go.Proofs.YtdhgpkdjdmlphaaGreat
namespace Go.Proofs.YtdhgpkdjdmlphaaGreat
open Go.RowKit
open Go.BigFrame
set_option maxRecDepth 100000 in
set_option maxHeartbeats 2000000 in
theorem Qua (A B:Option Addr) (n c m d:Nat) (key al be:List UInt8) (w:World) (hkl:key.length=32) (ha:RdB w A n al) (hb:RdB w B m be) (hn:n≤1048576) (hm:m≤1048576):
 Calls Tryz.prog 26 #[.agg (key.map W8).toArray,.slice A n c,.slice B m d] w fun e w'=>∃A' c',e= .returned (.slice A' 16 c')∧OwnB w' w.heap.size A' 16 c' (tagB key al be)∧Later w w':=by
 have hk:Blk (w.alloc (.cells (key.map W8).toArray 30)) w.heap.size 30 (key.map W8):=Blk.new _ _ _
 have L:=Qaa w (.cells (key.map W8).toArray 30)
 have hal:=ha.len
 have hbl:=hb.len
 have hSh:=hid (fun A c d (w:World) (h1:RdB w (some ⟨c,0,none⟩) 32 key) h2=>Qly (some ⟨c,0,none⟩) A 32 32 (n+m) d key (al++be) w h1 (by omega) h2 (by omega))
 have hT:Hid ((Qbb key (al++be)).take 16=tagB key al be):=hid rfl
 rw[hT.out]at hSh
 generalize tagB key al be=TG at *
 go_enter Tryz.func26,Tryz.ntmps26
 go_wp2_with fail
 generalize w.alloc _=w1 at *
 refine QhA (Spared w1 []) [([0,1,3],2),([],4),([],5)] [6] (by as_aux_lemma=>kernel_rfl) (by as_aux_lemma=>kernel_rfl) (by intro _ _ d _ _ h;cases d<;>exact h) ⟨Spared.refl _ _,?_⟩
 simp only[QeJ,pick,QCB,QCC,QCD,QCF,QCG]
 repeat (first|(go_big_quiet_step (fail))|(go_big_quiet_want;go_big_quiet_op;refine⟨_,fun _ _=>rfl,?_⟩;go_big_quiet_on))
 refine wpQuiet_nil ?_
 go_wp2_with fail
 (refine (Qfx A n c al _ ((ha.later L).later (Qab _)) (by omega)).mono ?_);rintro e w2 ⟨A2,c2,rfl,o2,l2⟩
 have S2:=(Spared.refl w1 []).later l2
 go_wp2_with fail
 refine⟨S2,?_⟩
 try simp only[QeJ,pick,QCB,QCC,QCD,QCF,QCG]
 repeat (first|(go_big_quiet_step (fail))|(go_big_quiet_want;go_big_quiet_op;refine⟨_,fun _ _=>rfl,?_⟩;go_big_quiet_on))
 refine wpQuiet_nil ?_
 go_wp2_with (first
  | (refine QaA rfl _ _ _ rfl 5 _ 1 Tryz.underlying22 Qb4 rfl w1.drew _ n _ o2 l2 B m d _ (Rd.later hb ((L.trans (Qab _)).trans l2)) (QaC _) rfl rfl (by omega) (by omega) ?_;intro A3 c3 w3 hown3 hl3 hg3 _)
  | fail)
 simp only[Act.put,QCJ,QCO,QCN]
 have S3:=S2.grown hg3 (fun k hk=>(World.ownsRow.lt o2 k hk).1)
 refine⟨S3,?_⟩
 try simp only[QeJ,pick,QCB,QCC,QCD,QCF,QCG]
 repeat (first|(go_big_quiet_step (fail))|(go_big_quiet_want;go_big_quiet_op;refine⟨_,fun _ _=>rfl,?_⟩;go_big_quiet_on))
 refine wpQuiet_nil ?_
 go_wp2_with fail
 (refine (hSh.out _ _ _ _ (Qb8 ((hk.later (Qab _)).later hl3) hkl) (QhP hown3).rd).mono ?_);rintro e w4 ⟨A4,c4,rfl,o4,l4⟩
 go_wp2_with fail
 refine⟨S3.later l4,?_⟩
 try simp only[QeJ,pick,QCB,QCC,QCD,QCF,QCG]
 repeat (first|(go_big_quiet_step (fail))|(go_big_quiet_want;go_big_quiet_op;refine⟨_,fun _ _=>rfl,?_⟩;go_big_quiet_on))
 refine wpQuiet_nil ?_
 go_wp2_with fail
 go_ret
 exact⟨_,_,rfl,o4.mono ((L.trans (Qab _)).trans hl3).size,((L.trans (Qab _)).trans hl3).trans l4⟩
theorem QqQ {w:World} {b p n:Nat} {bs:List UInt8} (h:RdB w (some ⟨b,p,none⟩) n bs) (k m:Nat) (hk:k+m≤n) (hk0:0<m):RdB w (some ⟨b,p+k,none⟩) m (subB bs k m):=by
 have h1:=(RdB.cut h (k:=k) (c:=n+1) (by omega) (by omega)).take (m:=m) (by omega)
 rw[show cutA (some ⟨b,p,none⟩) k (n+1)=some ⟨b,p+k,none⟩ by
  rw[cutA,if_neg (by omega)]
  show some ((⟨b,p,none⟩:Addr).add k)=_
  rw[Qdr]]at h1
 exact h1
theorem Qq6 {bs r:List UInt8} {off n:Nat} (h:subB bs off n=r):∀j v,(r.map W8)[j]?=some v→(bs.map W8)[off+j]?=some v:=by
 intro j v hv
 subst h
 rw[QCS,QD5]at hv
 obtain⟨x,hx,rfl⟩:=hv
 rw[QCS,QkF hx]
 rfl
section
variable {ops:Array Oper} {rest:List Oper} {o:Oper} {a:Act} {w:World} {Q:Exit→Act→World→Prop}
end
theorem QlF {P:Program} {d n k:Nat} {t:TypeId} {f:Field} {fs:List Field} {fs':Array Field} (hf:f.type=t) (hu:P.underlying t=some (.struct fs')) (hst:P.stoodInHeld t=false) (hs:(P.info? t).map (·.size)=some n) (hn:f.name≠ "_")
 {xs ys ps qs:List Value} (ho:f.offset=k) (hp:(xs.drop k).take n=ps) (hq:(ys.drop k).take n=qs) (b:Bool) (w:World) (hb:(Op.eqFields (d+1) ps.toArray qs.toArray fs'.toList).run P w= .ok b w):
 (Op.eqFields (d+2) xs.toArray ys.toArray (f :: fs)).run P w=if b then (Op.eqFields (d+2) xs.toArray ys.toArray fs).run P w else .ok false w:=by
 have e:P.fieldsOf t=fs':=by unfold Program.fieldsOf;rw[hu]
 rw[Op.eqFields,if_pos hn]
 simp only[Sem.run_bind,hf,ho,Qd5 hu rfl hs xs _ hp,Qd5 hu rfl hs ys _ hq,Result.andThen_ok]
 rw[run_equalIn_struct w (d+1) t ps.toArray qs.toArray (by rw[e];exact hu) hst,e,hb]
 simp only[Result.andThen_ok]
 cases b<;>simp
theorem Qyb:(Tryz.prog.info? 35).map (·.size)=some 480:=by kernel_rfl
set_option maxRecDepth 100000 in
theorem Qw9 (d:Nat) (x y:List UInt8) (hx:x.length=288) (hy:y.length=288) (w:World) {fs:Array Field} (hu:Tryz.prog.underlying 34=some (.struct fs)):
 (Op.eqFields (d+2) (x.map W8).toArray (y.map W8).toArray fs.toList).run Tryz.prog w= .ok (x==y) w:=by
 rw[Tryz.underlying34]at hu
 cases hu
 have l1:∀off n,off+n≤288→(subB x off n).length=n:=fun off n h=>Qan (by omega)
 have l2:∀off n,off+n≤288→(subB y off n).length=n:=fun off n h=>Qan (by omega)
 rw[Qb5 (k:=0) rfl (by decide) rfl (Qbz x 0 32) (Qbz y 0 32) (l1 _ _ (by omega)) (l2 _ _ (by omega)),
  Qc8 (k:=32) rfl Tryz.underlying31 QnT Qbu Tryz.underlying5 (by decide) rfl (Qbz x 32 16) (Qbz y 32 16) (l1 _ _ (by omega)) (l2 _ _ (by omega)),
  Qc8 (k:=48) rfl Tryz.underlying32 Qxn Qbu Tryz.underlying5 (by decide) rfl (Qbz x 48 240) (Qbz y 48 240) (l1 _ _ (by omega)) (l2 _ _ (by omega)),Qc6]
 have h:(x==y)=(subB x 0 32==subB y 0 32&&(subB x 32 16==subB y 32 16&&subB x 48 240==subB y 48 240)):=by
  rw[Qnr x y 48 240 (by omega) (by omega),Qjp x y 32 16,Qjp x y 0 32]
  rfl
 rw[h]
 cases subB x 0 32==subB y 0 32<;>cases subB x 32 16==subB y 32 16<;>cases subB x 48 240==subB y 48 240<;>rfl
abbrev Y768:={l:List UInt8 // l.length=768}
theorem Qxp:Tryz.prog.eqGuardType Tryz.prog.depth 37=false:=by kernel_rfl
@[go_sem high] theorem Qx7 (op:BinOp) (x y:Operand) (xs ys:Array Value) (w:World):(eqGuard op 37 x y (.agg xs) (.agg ys)).run Tryz.prog w= .ok () w:=run_eqGuard_agg w op _ x y xs ys Qxp
set_option maxRecDepth 100000 in
theorem Qim (x y:List UInt8) (hx:x.length=768) (hy:y.length=768) (w:World) {fs:Array Field} (hu:Tryz.prog.underlying 37=some (.struct fs)):
 (Op.eqFields 9999 (x.map W8).toArray (y.map W8).toArray fs.toList).run Tryz.prog w= .ok (x==y) w:=by
 rw[Tryz.underlying37]at hu
 cases hu
 have l1:(subB x 0 288).length=288:=Qan (by omega)
 have l2:(subB y 0 288).length=288:=Qan (by omega)
 have l3:(subB x 288 480).length=480:=Qan (by omega)
 have l4:(subB y 288 480).length=480:=Qan (by omega)
 rw[QlF (d:=9997) (k:=0) rfl Tryz.underlying34 (by kernel_rfl) QcK (by decide) rfl (Qbz x 0 288) (Qbz y 0 288) _ w (Qw9 9996 _ _ l1 l2 w Tryz.underlying34),
  Qc8 (d:=9997) (k:=288) rfl Tryz.underlying35 Qyb Qbu Tryz.underlying5 (by decide) rfl (Qbz x 288 480) (Qbz y 288 480) l3 l4,Qc6]
 have h:(x==y)=(subB x 0 288==subB y 0 288&&subB x 288 480==subB y 288 480):=by
  rw[Qnr x y 288 480 (by omega) (by omega),Qjp x y 0 288]
  rfl
 rw[h]
 cases subB x 0 288==subB y 0 288<;>cases subB x 288 480==subB y 288 480<;>rfl
@[go_sem high] theorem Qyj (x y:Y768) (w:World):(binOp .eql 37 (.agg (x.val.map W8).toArray) (.agg (y.val.map W8).toArray)).run Tryz.prog w= .ok (.bool (x.val==y.val)) w:=by
  rw[Qgm Tryz.underlying37 (by kernel_rfl),Qim _ _ x.2 y.2 w Tryz.underlying37]
  rfl
@[go_sem high] theorem Qx3 (x y:Y768) (w:World):(binOp .neq 37 (.agg (x.val.map W8).toArray) (.agg (y.val.map W8).toArray)).run Tryz.prog w= .ok (.bool (!(x.val==y.val))) w:=by
  rw[QiC Tryz.underlying37 (by kernel_rfl),Qim _ _ x.2 y.2 w Tryz.underlying37]
  rfl
section
variable {ops:Array Oper} {rest:List Oper} {o:Oper} {a:Act} {w:World} {Q:Exit→Act→World→Prop}
end
theorem QqA {P:Program} {o:Oper} {a:Act} {J:Act→Prop} (ty:TypeId) (x:Operand) (ho:o.op= .load ty x) {w0:World} {g:Nat} {t:TypeId} {l:List Value} (off:Nat) (vs:List Value) (hb:Blk w0 g t l) (hx:a.eval x= .pointer (some ⟨g,off,none⟩))
 (hv:∀j v,vs[j]?=some v→l[off+j]?=some v) (d:TypeDesc) (hu:P.underlying ty=some d) (hd:QbM d=true) (hi:(P.info? ty).map (·.size)=some vs.length) (h:J (a.put o.dst (.agg vs.toArray))):o.quiet P a (fun w'=>∃x,w'=grow w0 x) J:=
 Qa2 _ x ho g off vs (fun _ hw j v hv'=>by obtain⟨y,rfl⟩:=hw;exact (hb.later ⟨y,rfl⟩).cellD _ (hv j v hv')) hx d hu hd hi h
theorem Qyw {k p:List UInt8} (h:unwE k p≠0):unwC k p=cmd0∧unwP k p=z768∧unwB k p=[]:=by
 by_cases hm:QaX k (p.take 32)=0
 ·have hr:relE (QbB k (p.take 32)) p≠0:=by rwa [unwE,if_pos hm]at h
  exact⟨by rw[unwC,if_pos hm,relC,Qji,if_neg (show ¬QfI (p.take 288) (QbB k (p.take 32))=0 from hr)],by rw[unwP,if_pos hm,relP,if_neg (fun x=>hr x.1)];rfl,by rw[unwB,if_pos hm,relB,if_neg (fun x=>hr x.1)]⟩
 ·exact⟨by rw[unwC,if_neg hm],by rw[unwP,if_neg hm];rfl,by rw[unwB,if_neg hm]⟩
theorem QiG (k p:List UInt8) (hp:p.length=768):(unwP k p).length=768:=by
 unfold unwP
 split
 ·exact Qi1 _ _ hp (Qc5 _ _)
 ·exact QCM
section
variable {ops:Array Oper} {rest:List Oper} {o:Oper} {a:Act}
theorem QfB (hw:Region.wanted o (yielded ops a.tmps)=true) (ho:o.op= .alloc 68):
 Makes Tryz.prog ops o (fun g=>.pointer (some ⟨g,0,none⟩)) (.cells Tryz.zeroCells68 68) a:=
 ⟨hw,fun w=>by
   unfold execOp
   rw[ho]
   simp[go_sem]⟩
end
structure Pel where
 c:Cmd
 P:Y768
 B:List UInt8
def Quc:Y768:=⟨z768,QaN⟩
def pel0:Pel:=⟨cmd0,Quc,[]⟩
def unwY (k:List UInt8) (p:Y768):Y768:=⟨unwP k p.val,QiG k p.val p.2⟩
def unwL (k:List UInt8) (p:Y768):Pel:=⟨unwC k p.val,unwY k p,unwB k p.val⟩
section
variable {ks:List (List UInt8)} {k:Nat} {q:Y768}
end
structure PelV where
 c:Cmd
 P:Y768
 A:Option Addr
 n:Nat
 cp:Nat
def QCf:PelV:=⟨cmd0,Quc,none,0,0⟩
def Qyt (w:World) (base:Nat) (x:PelV) (y:Pel):Prop:=x.c=y.c∧x.P=y.P∧x.n=y.B.length∧OwnB w base x.A x.n x.cp y.B
def PelRow (w:World) (base:Nat):List PelV→List Pel→Prop
 | [],[]=>True
 | x :: xs,y :: ys=>Qyt w base x y∧PelRow w base xs ys
 | _,_=>False
theorem PelRow.len {w:World} {base:Nat}:∀ {xs:List PelV} {ys:List Pel},PelRow w base xs ys→xs.length=ys.length
 | [],[],_=>rfl
 | x :: xs,y :: ys,h=>by rw[QDu,QDu,PelRow.len h.2]
theorem PelRow.snoc {w:World} {base:Nat} {x:PelV} {y:Pel}:∀ {xs:List PelV} {ys:List Pel},PelRow w base xs ys→Qyt w base x y→PelRow w base (xs++[x]) (ys++[y])
 | [],[],_,h=>⟨h,trivial⟩
 | _ :: _,_ :: _,h,h'=>⟨h.1,PelRow.snoc h.2 h'⟩
theorem PelRow.mono {w w':World} {base:Nat} (hw:∀A n c B,OwnB w base A n c B→OwnB w' base A n c B):∀ {xs:List PelV} {ys:List Pel},PelRow w base xs ys→PelRow w' base xs ys
 | [],[],_=>trivial
 | _ :: _,_ :: _,h=>⟨⟨h.1.1,h.1.2.1,h.1.2.2.1,hw _ _ _ _ h.1.2.2.2⟩,PelRow.mono hw h.2⟩
theorem PelRow.at_ {w:World} {base:Nat}:∀ {xs:List PelV} {ys:List Pel} (i:Nat),PelRow w base xs ys→i<ys.length→Qyt w base (xs.getD i QCf) (ys.getD i pel0)
 | [],[],i,_,h=>absurd h (by simp)
 | _ :: _,_ :: _,0,h,_=>h.1
 | _ :: _,_ :: _,i+1,h,hi=>by
   have:=PelRow.at_ i h.2 (by simpa using hi)
   simpa using this
theorem PelRow.later {w w':World} {base:Nat} {xs:List PelV} {ys:List Pel} (h:PelRow w base xs ys) (hl:Later w w'):PelRow w' base xs ys:=h.mono fun _ _ _ _ h=>Qbo h hl
theorem QcL {w w':World} {base k sz:Nat} {e:TypeId} {v:Value} {n:Nat} {vs:List Value} (h:w.ownsRow base e sz v n vs) (ho:Only k w w') (hne:∀b,v.ownBlock=some b→b≠k):w'.ownsRow base e sz v n vs:=by
 refine h.kept ho ?_
 cases hb:v.ownBlock with
 | none=>exact .inl rfl
 | some b=>exact .inr fun he=>hne b hb (by injection he)
def All2 {α β:Type} (R:α→β→Prop):List α→List β→Prop
 | [],[]=>True
 | x :: xs,y :: ys=>R x y∧All2 R xs ys
 | _,_=>False
section
variable {α β:Type} {R R':α→β→Prop}
theorem All2.len:∀ {xs:List α} {ys:List β},All2 R xs ys→xs.length=ys.length
 | [],[],_=>rfl
 | x :: xs,y :: ys,h=>by rw[QDu,QDu,All2.len h.2]
theorem All2.snoc {x:α} {y:β}:∀ {xs:List α} {ys:List β},All2 R xs ys→R x y→All2 R (xs++[x]) (ys++[y])
 | [],[],_,h=>⟨h,trivial⟩
 | _ :: _,_ :: _,h,h'=>⟨h.1,All2.snoc h.2 h'⟩
theorem All2.mono (hR:∀x y,R x y→R' x y):∀ {xs:List α} {ys:List β},All2 R xs ys→All2 R' xs ys
 | [],[],_=>trivial
 | _ :: _,_ :: _,h=>⟨hR _ _ h.1,All2.mono hR h.2⟩
theorem All2.at_ (d:α) (e:β):∀ {xs:List α} {ys:List β} (i:Nat),All2 R xs ys→i<ys.length→R (xs.getD i d) (ys.getD i e)
 | [],[],i,_,h=>absurd h (by simp)
 | _ :: _,_ :: _,0,h,_=>h.1
 | _ :: _,_ :: _,i+1,h,hi=>by
   have:=All2.at_ d e i h.2 (by simpa using hi)
   simpa using this
end
structure RefV where
 c:Cmd
 Q:Option Addr
 nq:Nat
 cq:Nat
 A:Option Addr
 n:Nat
 cp:Nat
def QCu (v1 v2:Value):Prop:=∀b1 b2,v1.ownBlock=some b1→v2.ownBlock=some b2→b2<b1
def Qxt (p:List UInt8) (q r:Nat):List UInt8:=p.set q (p.getD q 0 ^^^ QDe (2^r))
theorem QlS (p:List UInt8) (q r:Nat):(Qxt p q r).length=p.length:=QDi
theorem Qih (t:List UInt8) (a n k:Nat) (h:a+n≤k):subB (t.take k) a n=subB t a n:=by
 rw[subB,subB,List.drop_take,List.take_take,QDv (by omega)]
theorem Qu4 (t s:List UInt8):QgG (t.take 288) s=decide (tagB (kMac s) (t.take 32) (subB t 48 240)=subB t 32 16):=by
 rw[QgG,Qih _ _ _ _ (by omega),Qih _ _ _ _ (by omega),Qih _ _ _ _ (by omega)]
 rfl
theorem Qn1 (h s:List UInt8) (hf:QgG h s=true):QfI h s≠6:=by
 rw[QfI,hf,if_neg (by decide)]
 split
 ·omega
 ·split
  ·rw[Qlz,QaX]
   split
   ·split<;>omega
   ·omega
  ·omega
theorem QtK {k t:List UInt8}:(QaX k (t.take 32)≠0→unwE k t=QaX k (t.take 32))∧(QaX k (t.take 32)=0→QgG (t.take 288) (QbB k (t.take 32))=false→unwE k t=6)∧(QaX k (t.take 32)=0→QgG (t.take 288) (QbB k (t.take 32))=true→unwE k t≠6):=by
 refine⟨fun h=>by rw[unwE,if_neg h],fun h hf=>by rw[unwE,if_pos h,relE,QfI,if_pos hf],fun h hf=>?_⟩
 rw[unwE,if_pos h]
 exact Qn1 _ _ hf
end Go.Proofs.YtdhgpkdjdmlphaaGreat
namespace Go.Proofs.YtdhgpkdjdmlphaaGreat
open Go.ChangeShapes Go.WideShapes Go.ChangeAt Go.RowKit
end Go.Proofs.YtdhgpkdjdmlphaaGreat
namespace Go.Proofs.YtdhgpkdjdmlphaaGreat
open Go.ChangeShapes Go.WideShapes Go.ChangeAt Go.RowKit
open _root_.Go.Proofs.YtdhgpkdjdmlphaaGreat.Rows (uptoBulk uptoBulkAll uptoSmall)
theorem Quw {H:Type} (d:DataW H):1≤uptoBulk d:=by
 cases d with
 | lit l=>cases l<;>simp[uptoBulk]
 | _=>simp[uptoBulk]
theorem Quf {H:Type} {d:DataW H} {l:List (DataW H)} (h:d∈l):uptoBulk d≤uptoBulkAll l:=by
 induction l with
 | nil=>cases h
 | cons x r ih=>
   simp only[uptoBulkAll]
   cases QCX.1 h with
   | inl e=>subst e;omega
   | inr e=>have:=ih e;omega
theorem QoQ {H:Type} (l:List (DataW H)):l.length≤uptoBulkAll l:=by
 induction l with
 | nil=>simp[uptoBulkAll]
 | cons x r ih=>have:=Quw x;simp only[uptoBulkAll,QDu];omega
section
variable {H:Type} {enc:TypeId×Value→H} {P:Program} {w:World} {base:Nat} {sp:Nat→Bool} {held:Bool}
theorem QuQ {a:Addr} {c:List Value} (h:w.cells? base a 1=some c):∃u,c=[u]∧w.cell? a=some u:=by
 have e0:a.add 0=a:=by simp[Addr.add]
 unfold World.cells? at h
 split at h
 ·simp only[QEK,List.range_zero,QCG,List.mapM_cons,List.mapM_nil,e0]at h
  cases hcc:w.cell? a with
  | none=>simp[hcc]at h
  | some u=>simp[hcc]at h;exact⟨u,h.symm,rfl⟩
 ·cases h
theorem Qml {a:Addr} {u:Value} (h:w.cell? a=some u):a.spot=none∧a.block<w.heap.size:=by
 unfold World.cell? at h
 split at h
 ·rename_i c t fz hc
  refine⟨?_,(Array.getElem?_eq_some_iff.1 hc).1⟩
  cases hs:a.spot with
  | none=>rfl
  | some x=>simp[hs]at h
 ·cases h
theorem Qu2 {t e:TypeId} {fuel:Nat} {v:Value} {x:DataW H×List MemPlace} (ht:P.underlying t=some (.slice e)) (hc:P.cellsOf e=1) (h:DataW.trod enc P w base sp held fuel t [v]=some x):
 ∃A n c,∃(vs:List Value) (xs:List (DataW H×List MemPlace)),v= .slice A n c∧n≤c∧c≤maxLen∧Rd w A n vs∧xs.length=n∧
  (∀ (j:Nat) u,vs[j]?=some u→∃y f,xs[j]?=some y∧DataW.trod enc P w base sp held f e [u]=some y)∧uptoBulkAll (xs.map (·.1))+1≤uptoBulk x.1:=by
 rcases DataW.trod_slice ht h with ⟨hcs,rfl⟩|⟨a,len,cap,elems,rest,n,rfl,hcs,rfl,hb,hl,hm,hlen,hel,hsp,hns⟩
 ·obtain rfl:v= .slice none 0 0:=by simpa using hcs
  exact⟨none,0,0,[],[],rfl,QCL _,Nat.zero_le _,⟨rfl,fun h=>absurd h (by omega)⟩,rfl,fun j u hu=>by simp at hu,by simp[uptoBulk,uptoBulkAll]⟩
 ·obtain rfl:v= .slice (some a) len cap:=by simpa using hcs
  have each:∀i,i<len→∃u y,w.cell? (a.add i)=some u∧elems[i]?=some y∧DataW.trod enc P w base sp held n e [u]=some y:=by
   intro i hi
   have hE:=hel i hi
   rw[hc,QEs]at hE
   have hy:elems[i]?=some (elems[i]'(by omega)):=QCH _
   rw[hy,Option.bind_eq_some_iff]at hE
   obtain⟨c1,hc1,hy1⟩:=hE
   obtain⟨u,rfl,hu⟩:=QuQ hc1
   exact⟨u,_,hu,hy,hy1⟩
  refine⟨some a,len,cap,(QDq len).map fun i=>(w.cell? (a.add i)).getD undef,elems,rfl,hl,hm,⟨by simp,fun h0=>?_⟩,hlen,fun j u hu=>?_,?_⟩
  ·obtain⟨u,y,hu,_,_⟩:=each 0 h0
   have e0:a.add 0=a:=by simp[Addr.add]
   rw[e0]at hu
   obtain⟨h1,h2⟩:=Qml hu
   obtain⟨b,o,s⟩:=a
   simp only at h1
   subst h1
   refine⟨b,o,rfl,h2,fun j v hv=>?_⟩
   rw[QCS]at hv
   have hj:j<len:=by
    rcases QDC j len with h|h
    ·exact h
    ·rw[QDQ (by simpa using h)]at hv
     cases hv
   obtain⟨u',y',hu',_,_⟩:=each j hj
   rw[QEB hj]at hv
   simp only[QEm,Option.some.injEq,hu',QEF]at hv
   rw[←Qdr,hu',hv]
  ·rw[QCS]at hu
   have hj:j<len:=by
    rcases QDC j len with h|h
    ·exact h
    ·rw[QDQ (by simpa using h)]at hu
     cases hu
   obtain⟨u',y',hu',hy',ht'⟩:=each j hj
   rw[QEB hj]at hu
   simp only[QEm,Option.some.injEq,hu',QEF]at hu
   exact⟨y',n,hy',hu ▸ ht'⟩
  ·simp only[uptoBulk]
   omega
theorem Qqh {t e:TypeId} {fuel:Nat} {v:Value} {x:DataW H×List MemPlace} (ht:P.underlying t=some (.slice e)) (he:P.underlying e=some (.int .u8)) (hc:P.cellsOf e=1) (h:DataW.trod enc P w base sp held fuel t [v]=some x):
 ∃A n c bs,v= .slice A n c∧n≤c∧c≤maxLen∧RdB w A n bs∧bs.length+1≤uptoBulk x.1:=by
 obtain⟨A,n,c,vs,xs,rfl,h1,h2,h3,h4,h5,h6⟩:=Qu2 ht hc h
 have hb:∀(j:Nat) u,vs[j]?=some u→∃b:UInt8,u=W8 b:=by
  intro j u hu
  obtain⟨y,f,_,hy⟩:=h5 j u hu
  obtain⟨m,hm,rfl,hw⟩:=DataW.trod_int he hy
  obtain rfl:u= .int .u8 m:=by simpa using hm
  have hr:0≤m∧m≤255:=by simpa [Lit.wf,IntKind.min,IntKind.max,IntKind.signed,IntKind.bits] using hw
  exact⟨QDc m.toNat,by rw[W8,QDK];congr 1;omega⟩
 have hl:∀l:List Value,(∀ (j:Nat) u,l[j]?=some u→∃b:UInt8,u=W8 b)→∃bs:List UInt8,l=bs.map W8:=by
  intro l
  induction l with
  | nil=>exact fun _=>⟨[],rfl⟩
  | cons u l ih=>
    intro hl
    obtain⟨b,rfl⟩:=hl 0 u rfl
    obtain⟨bs,rfl⟩:=ih fun j v hv=>hl (j+1) v (by simpa using hv)
    exact⟨b :: bs,rfl⟩
 obtain⟨bs,rfl⟩:=hl vs hb
 refine⟨A,n,c,bs,rfl,h1,h2,h3,?_⟩
 have e1:bs.length=n:=by have:=h3.1;simpa using this
 have e2:=QoQ (xs.map (·.1))
 rw[QCE,h4]at e2
 omega
end
theorem QzY:Tryz.prog.cellsOf 5=1:=by kernel_rfl
section
variable {H:Type} {enc:TypeId×Value→H} {w:World} {base b0:Nat} {sp:Nat→Bool} {held:Bool} {r:Reach}
set_option maxRecDepth 100000 in
theorem Qph {t:TypeId} {v:Value} {d:DataW H} {ps:List MemPlace} (ht:Tryz.prog.underlying t=some (.slice 5)) (hval:Value.okWide Tryz.prog w r b0 t v) (h:DataW.Trod enc Tryz.prog w base sp held t v d ps):
 ∃A n c bs,v= .slice A n c∧n≤c∧c≤maxLen∧RdB w A n bs∧bs.length+1≤uptoBulk d:=by
 obtain⟨A,n,c,rfl⟩:=okWide_slice ht hval
 obtain⟨f,hf⟩:=h
 obtain⟨A',n',c',bs,h1,h2⟩:=Qqh ht Tryz.underlying5 QzY hf
 exact⟨A',n',c',bs,h1,h2⟩
end
section
variable {H:Type} {enc:TypeId×Value→H} {P:Program} {w:World} {base b0:Nat} {sp:Nat→Bool} {held:Bool} {r:Reach}
end
theorem Qoa {α β:Type} (f:α→Option β):∀(l:List α) (ys:List β),l.mapM f=some ys→ys.length=l.length∧∀(i:Nat) x,l[i]?=some x→f x=ys[i]?
 | [],ys,h=>by
   simp only[List.mapM_nil,pure,Option.some.injEq]at h
   subst h
   exact⟨rfl,fun i x hx=>by simp at hx⟩
 | a :: l,ys,h=>by
   rw[List.mapM_cons]at h
   simp only[bind,Option.bind_eq_some_iff,pure,Option.some.injEq]at h
   obtain⟨y,hy,ys',h',rfl⟩:=h
   obtain⟨h1,h2⟩:=Qoa f l ys' h'
   refine⟨by simp[h1],fun i x hx=>?_⟩
   cases i with
   | zero=>
     obtain rfl:a=x:=by simpa using hx
     simpa using hy
   | succ i=>simpa using h2 i x (by simpa using hx)
theorem QjY {w:World} {base k:Nat} {a:Addr} {cs:List Value} (h:w.cells? base a k=some cs):cs.length=k∧∀i,i<k→w.cell? (a.add i)=cs[i]?:=by
 unfold World.cells? at h
 split at h
 ·obtain⟨h1,h2⟩:=Qoa _ _ _ h
  exact⟨by simpa using h1,fun i hi=>h2 i i (by rw[QEB hi])⟩
 ·cases h
theorem Qer {l:List Value} {i:Nat} {v:Value} (h:(l.drop i).take 1=[v]):l[i]?=some v:=by
 have:=congrArg (·[0]?) h
 simpa [QEh,QDP] using this
section
variable {H:Type} {enc:TypeId×Value→H} {w:World} {base:Nat} {sp:Nat→Bool} {held:Bool}
theorem Qo3 {fuel:Nat} {cs:List Value} {x:DataW H×List MemPlace} (h:DataW.trod enc Tryz.prog w base sp held fuel 30 cs=some x):∃K:Y32,cs=K.val.map W8:=by
 obtain⟨xs,m,rfl,rfl,hl,hxl,he⟩:=DataW.trod_array Tryz.underlying30 h
 have hn:Tryz.prog.cellsOf 30=32:=by kernel_rfl
 have h1:Tryz.prog.cellsOf 5=1:=by kernel_rfl
 rw[hn]at hl
 rw[h1]at he
 have each:∀i,∃b:UInt8,i<32→cs[i]?=some (W8 b):=by
  intro i
  by_cases hi:i<32
  ·have:=he i hi
   rw[QCH (by omega),QEs]at this
   obtain⟨z,hz,_,hw⟩:=DataW.trod_int Tryz.underlying5 this
   have hr:0≤z∧z≤255:=by simpa [Lit.wf,IntKind.min,IntKind.max,IntKind.signed,IntKind.bits] using hw
   exact⟨_,fun _=>by rw[Qer hz,QbF z hr.1 (by omega)]⟩
  ·exact⟨0,fun h=>absurd h hi⟩
 obtain⟨f,hf⟩:=Classical.axiomOfChoice each
 refine⟨⟨(QDq 32).map f,by simp⟩,?_⟩
 apply List.ext_getElem?
 intro i
 rcases QDC i 32 with hi|hi
 ·rw[hf i hi,QCS,QCS,QEB hi]
  rfl
 ·rw[QDQ (by omega),QDQ (by simp;omega)]
set_option maxRecDepth 100000 in
theorem QuJ {fuel:Nat} {cs:List Value} {x:DataW H×List MemPlace} (h:DataW.trod enc Tryz.prog w base sp held fuel 74 cs=some x):∃y:Nod,cs=NC y∧y.nm.size≤uptoBulk x.1:=by
 obtain⟨xs,m,rfl,rfl,hl,hxl,he⟩:=DataW.trod_struct Tryz.underlying74 h
 have hn:Tryz.prog.cellsOf 74=66:=by kernel_rfl
 have hS:Tryz.prog.cellsOf 9=1:=by kernel_rfl
 have hU:Tryz.prog.cellsOf 23=1:=by kernel_rfl
 have hB:Tryz.prog.cellsOf 30=32:=by kernel_rfl
 rw[hn]at hl
 have hxl4:xs.length=4:=hxl
 have e0:DataW.trod enc Tryz.prog w base sp held m 9 ((cs.drop 0).take (Tryz.prog.cellsOf 9))=xs[0]?:=he 0 _ rfl
 have e1:DataW.trod enc Tryz.prog w base sp held m 23 ((cs.drop 1).take (Tryz.prog.cellsOf 23))=xs[1]?:=he 1 _ rfl
 have e2:DataW.trod enc Tryz.prog w base sp held m 30 ((cs.drop 2).take (Tryz.prog.cellsOf 30))=xs[2]?:=he 2 _ rfl
 have e3:DataW.trod enc Tryz.prog w base sp held m 30 ((cs.drop 34).take (Tryz.prog.cellsOf 30))=xs[3]?:=he 3 _ rfl
 rw[hS,QCH (by omega)]at e0
 rw[hU,QCH (by omega)]at e1
 rw[hB,QCH (by omega)]at e2 e3
 obtain⟨s,hs,hx0,_⟩:=DataW.trod_string Tryz.underlying9 e0
 obtain⟨z,hz,_,hw⟩:=DataW.trod_int Tryz.underlying23 e1
 obtain⟨K,hK⟩:=Qo3 e2
 obtain⟨P,hP⟩:=Qo3 e3
 have hr:0≤z∧z≤18446744073709551615:=by simpa [Lit.wf,IntKind.min,IntKind.max,IntKind.signed,IntKind.bits] using hw
 have c0:=Qer hs
 have c1:=Qer hz
 rw[Qa9 z hr.1 (by omega)]at c1
 refine⟨⟨s,QC5 z.toNat,K,P⟩,?_,?_⟩
 ·match cs,hl,c0,c1,hK,hP with
  | a :: b :: r,hl,c0,c1,hK,hP=>
    have hrl:r.length=64:=by simpa using hl
    rw[QEt,QEt,QEb]at hK
    rw[show (34:Nat)=32+1+1 from rfl,QEt,QEt,QCP (by simp;omega)]at hP
    obtain rfl:a= .string s:=by simpa using c0
    obtain rfl:b=W64 (QC5 z.toNat):=by simpa using c1
    rw[NC,←hK,←hP,QC9]
 ·have hb:xs[0].1= .lit (.string s.data.toList):=by rw[hx0]
  have:=Quf (d:=xs[0].1) (l:=xs.map (·.1)) (QDt.2 ⟨_,QD2 _,rfl⟩)
  rw[hb]at this
  simp only[uptoBulk]at this ⊢
  have hsz:s.data.toList.length=s.size:=by simp
  show s.size≤_
  omega
end
section
variable {H:Type} {enc:TypeId×Value→H} {w:World} {base b0:Nat} {sp:Nat→Bool} {held:Bool} {r:Reach}
set_option maxRecDepth 100000 in
theorem Quv {fuel:Nat} {cs:List Value} {x:DataW H×List MemPlace} (h:DataW.trod enc Tryz.prog w base sp held fuel 76 cs=some x):∃y:Hp,cs=HC y:=by
 obtain⟨xs,m,rfl,rfl,hl,hxl,he⟩:=DataW.trod_struct Tryz.underlying76 h
 have hn:Tryz.prog.cellsOf 76=68:=by kernel_rfl
 have hN:Tryz.prog.cellsOf 74=66:=by kernel_rfl
 have hI:Tryz.prog.cellsOf 3=1:=by kernel_rfl
 rw[hn]at hl
 have hxl3:xs.length=3:=hxl
 have e0:DataW.trod enc Tryz.prog w base sp held m 74 ((cs.drop 0).take (Tryz.prog.cellsOf 74))=xs[0]?:=he 0 _ rfl
 have e1:DataW.trod enc Tryz.prog w base sp held m 3 ((cs.drop 66).take (Tryz.prog.cellsOf 3))=xs[1]?:=he 1 _ rfl
 have e2:DataW.trod enc Tryz.prog w base sp held m 3 ((cs.drop 67).take (Tryz.prog.cellsOf 3))=xs[2]?:=he 2 _ rfl
 rw[hN,QCH (by omega)]at e0
 rw[hI,QCH (by omega)]at e1 e2
 obtain⟨y,hy,_⟩:=QuJ e0
 obtain⟨z1,hz1,_,_⟩:=DataW.trod_int Tryz.underlying3 e1
 obtain⟨z2,hz2,_,_⟩:=DataW.trod_int Tryz.underlying3 e2
 have c1:=Qer hz1
 have c2:=Qer hz2
 refine⟨⟨y,z1,z2⟩,?_⟩
 have hd:cs.drop 66=[.int .i64 z1,.int .i64 z2]:=by
  apply List.ext_getElem?
  intro i
  rw[QDP]
  rcases i with _|_|i
  ·exact c1
  ·exact c2
  ·rw[QDQ (by omega),QDQ (by simp)]
 rw[HC,←hd]
 rw[QEb]at hy
 show cs=NC y++cs.drop 66
 rw[←hy,QC9]
theorem Qsd {fuel:Nat} {v:Value} {x:DataW H×List MemPlace} (h:DataW.trod enc Tryz.prog w base sp held fuel 26 [v]=some x):
 ∃A n c xs,v= .slice A n c∧n≤c∧RdH w A n xs∧n+1≤uptoBulk x.1:=by
 rcases DataW.trod_slice Tryz.underlying26 h with ⟨hcs,rfl⟩|⟨a,len,cap,elems,rest,n,rfl,hcs,rfl,hb,hl,hm,hlen,hel,hsp,hns⟩
 ·obtain rfl:v= .slice none 0 0:=by simpa using hcs
  exact⟨none,0,0,[],rfl,QCL _,QoY w,by simp[uptoBulk]⟩
 ·obtain rfl:v= .slice (some a) len cap:=by simpa using hcs
  have hc:Tryz.prog.cellsOf 76=68:=by kernel_rfl
  have each:∀i,∃y:Hp,i<len→w.cells? base (a.add (i*68)) 68=some (HC y):=by
   intro i
   by_cases hi:i<len
   ·have hE:=hel i hi
    rw[hc]at hE
    have hy:elems[i]?=some (elems[i]'(by omega)):=QCH _
    rw[hy,Option.bind_eq_some_iff]at hE
    obtain⟨c1,hc1,hy1⟩:=hE
    obtain⟨y,rfl⟩:=Quv hy1
    exact⟨y,fun _=>hc1⟩
   ·exact⟨hp0,fun h=>absurd h hi⟩
  obtain⟨f,hf⟩:=Classical.axiomOfChoice each
  have hfl:∀j,j<len→((QDq len).map f).getD j hp0=f j:=by
   intro j hj
   rw[QCI,QCS,QEB hj]
   rfl
  have e2:=QoQ (elems.map (·.1))
  rw[QCE,hlen]at e2
  refine⟨some a,len,cap,(QDq len).map f,rfl,hl,⟨by simp,fun h0=>?_⟩,?_⟩
  ·have e0:a.add (0*68)=a:=by simp[Addr.add]
   have h00:=(QjY (hf 0 h0)).2 0 (by omega)
   rw[e0]at h00
   have e1:a.add 0=a:=by simp[Addr.add]
   rw[e1,show (HC (f 0))[0]?=some (.string (f 0).nod.nm) from rfl]at h00
   obtain⟨h1,h2⟩:=Qml h00
   obtain⟨b,o,s⟩:=a
   simp only at h1
   subst h1
   refine⟨b,o,rfl,h2,fun j i v hj hv=>?_⟩
   rw[hfl j hj]at hv
   have hi:i<68:=by
    have:=(QCT.1 hv).1
    rwa [Qa4]at this
   have:=(QjY (hf j hj)).2 i hi
   rw[Qdr,Qdr]at this
   rw[this]
   exact hv
  ·simp only[uptoBulk]
   omega
set_option maxRecDepth 100000 in
theorem QqN {v:Value} {d:DataW H} {ps:List MemPlace} (ht:Tryz.prog.underlying 26=some (.slice 76)) (hval:Value.okWide Tryz.prog w r b0 26 v) (h:DataW.Trod enc Tryz.prog w base sp held 26 v d ps):
 ∃A n c xs,v= .slice A n c∧n≤c∧RdH w A n xs∧n+1≤uptoBulk d:=by
 obtain⟨A,n,c,rfl⟩:=okWide_slice ht hval
 obtain⟨f,hf⟩:=h
 obtain⟨A',n',c',ns,h1,h2,h3,h4⟩:=Qsd hf
 exact⟨A',n',c',ns,h1,h2,h3,h4⟩
end
end Go.Proofs.YtdhgpkdjdmlphaaGreat
