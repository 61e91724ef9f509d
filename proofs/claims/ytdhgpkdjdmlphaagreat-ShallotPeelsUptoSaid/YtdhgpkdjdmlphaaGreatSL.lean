/-
  Lemmas for the last text of this claim (part 12 of 20).
-/
import Derived.ArgAppend
import Derived.BigQuiet
import Derived.BigRegion
import Derived.ChangeOld
import Derived.Deep.RegionWith
import Derived.DeepKeys4
import Derived.JoinedCond
import Derived.LaidMore
import Derived.Laws.BytesArg
import Derived.Laws.CopyOwn
import Derived.Laws.Externs
import Derived.Laws.IdiomStrings
import Derived.Laws.Tables
import Derived.Lib.AppendStr
import Derived.Lib.AppendZerosOnto
import Derived.Lib.Mul64
import Derived.Lib.SlBytesConst
import Derived.LoopN
import Derived.Maps.OwnSet
import Derived.OpenShut
import Derived.OrdersHeld
import Derived.ProofKit
import Derived.Shelf.Spec.BitsCarry
import Derived.ShutString
import Derived.Test.YtdhgpkdjdmlphaaGreatProg
import Derived.Test.YtdhgpkdjdmlphaaGreatRows
import Derived.WalkKit
import Derived.WalkLawsBesides
import Derived.WalkSpells
import Derived.Test.YtdhgpkdjdmlphaaGreatSA
import Derived.Test.YtdhgpkdjdmlphaaGreatSB
import Derived.Test.YtdhgpkdjdmlphaaGreatSD
import Derived.Test.YtdhgpkdjdmlphaaGreatSF
import Derived.Test.YtdhgpkdjdmlphaaGreatSH
import Derived.Test.YtdhgpkdjdmlphaaGreatSK
open Bool renaming and_eq_true → QCZ
open List renaming replicate → QCC, getElem?_cons_succ → QCD, length_map → QCG, getElem?_eq_getElem → QCH, nil_append → QCI, getD_eq_getElem?_getD → QCK, length_replicate → QCO, getElem?_append_right → QCR, map_toArray → QCS, take_of_length_le → QCT, mem_cons → QCV, not_mem_nil → QCW, getElem?_eq_some_iff → QCX, getElem?_map → QCY, getElem?_append_left → QC0, map_nil → QC2, take_append_drop → QC9, map_cons → QDa, map_replicate → QDi, all_eq_true → QDm, map_append → QDo, drop_left' → QDp, length_cons → QDq, range → QDt, mem_map → QDu, getElem?_drop → QDN, all_cons → QDO, getElem_mem → QDS, take_left' → QDV, getElem?_eq_none → QDW, replicate_succ → QD6, mem_append → QD7, drop_zero → QD8, drop_succ_cons → QEf, getElem?_take → QEl, getElem?_range → QEC, range_succ → QEN, getElem_of_mem → QEO
open Nat renaming le_refl → QCN, zero_add → QC6, lt_or_ge → QDF, mul_one → QEq
open Option renaming map_some → QEc, getD_some → QEH
open UInt64 renaming ofNat → QC4, toNat_inj → QEx
open UInt8 renaming ofNat → QDc, toNat_inj → QDr, toNat_ofNat' → QDH, lt_iff_toNat_lt → QEr
set_option linter.all false
namespace Go.Proofs.YtdhgpkdjdmlphaaGreat
open Go.RowKit
section
variable {P:Program} {ops:Array Oper} {rest:List Oper} {o:Oper} {a:Act} {w:World} {Q:Exit→Act→World→Prop}
theorem Qph (hw:Region.wanted o (yielded ops a.tmps)=true) (t:TypeId) (x:Operand) (ho:o.op= .buildSlice t 1 #[(0,x)]) (e:TypeId) (sz:Nat) (z:Value) (vs:List Value) (ht:P.underlying t=some (.slice e)) (hz:(P.info? e).map (fun i=>(i.zero,i.size))=some (some z,sz)) (hs0:0<sz) (hsm:sz≤65536)
 (hbl:vs.length=sz) (hx:a.eval x= .agg vs.toArray)
 (h:wpList P ops Q rest (a.put o.dst (.slice (some ⟨w.heap.size,0,none⟩) 1 1)) (w.alloc (.cells vs.toArray e))):wpList P ops Q (o :: rest) a w:=
 BigFrame.wpList_want hw fun K hK=>by
  have hr:=QjD (v:=.agg vs.toArray) ht hz hs0 hsm rfl hbl w
  unfold Oper.wp
  simp only[execOp,ho,QCS,QDa,QC2,hx,Sem.run_bind,hr,Result.andThen_ok,Sem.run_pure]
  exact hK _ _ h
end
end Go.Proofs.YtdhgpkdjdmlphaaGreat
namespace Go.Proofs.YtdhgpkdjdmlphaaGreat
open Go.RowKit
open Go.BigFrame
structure Nod where
 nm:ByteArray
 id:UInt64
 priv:Y32
 pub:Y32
def QwC:Y32:=⟨QCC 32 0,by simp⟩
def nod0:Nod:=⟨.empty,0,QwC,QwC⟩
def NC (x:Nod):List Value:=.string x.nm :: W64 x.id :: (x.priv.val.map W8++x.pub.val.map W8)
theorem Qaw (x:Nod):(NC x).length=66:=by simp[NC,x.priv.2,x.pub.2]
theorem QzE (x:Nod):∀u∈NC x,u.oneCell'=true:=by
 intro u hu
 simp only[NC,QCV,QD7,QDu]at hu
 rcases hu with rfl|rfl|⟨b,_,rfl⟩|⟨b,_,rfl⟩<;>rfl
theorem Qm0 (x:Nod) {j:Nat} {v:Value} (h:(x.priv.val.map W8)[j]?=some v):(NC x)[2+j]?=some v:=by
 have hj:j<(x.priv.val.map W8).length:=(QCX.1 h).1
 rw[NC,show 2+j=j+1+1 by omega,QCD,QCD,QC0 hj]
 exact h
theorem Qwv (x:Nod) {j:Nat} {v:Value} (h:(x.pub.val.map W8)[j]?=some v):(NC x)[34+j]?=some v:=by
 have hp:(x.priv.val.map W8).length=32:=by rw[QCG,x.priv.2]
 rw[NC,show 34+j=j+32+1+1 by omega,QCD,QCD,QCR (by omega),hp,Nat.add_sub_cancel]
 exact h
set_option maxRecDepth 100000 in
theorem QfU (K:List UInt8) (hK:K.length=32) (w:World):
 Calls Tryz.prog 72 #[.agg (K.map W8).toArray] w fun e w'=>∃g,e= .returned (.slice (some ⟨g,0,none⟩) 32 32)∧w.heap.size≤g∧Blk w' g 5 (K.map W8)∧Later w w':=by
 have hb0:Blk (w.alloc (.cells (K.map W8).toArray 30)) w.heap.size 30 (K.map W8):=Blk.new _ _ _
 go_enter Tryz.func72,Tryz.ntmps72
 go_wp2_with (first
  | (refine Qax rfl _ _ 22 rfl 5 (.int .u8 0) 1 Tryz.underlying22 QcR rfl _ _ _ _ 32 rfl rfl rfl rfl (by omega) (by omega) ?_;intro w2 hb2 hl2;rw[show (w.alloc (.cells (K.map W8).toArray 30)).heap.size=w.heap.size+1 by simp]at hb2)
  | (refine QjI 0 32 rfl _ _ _ _ rfl 5 Tryz.underlying22 QbY (show Blk w2 (w.heap.size+1) 5 ((QCC 32 0).map W8) by (rw [QDi];exact hb2)) (Qb9 (hb0.later hl2) hK) rfl rfl (by simp) ?_;intro w3 hb3 ho3;rw[Qku _ _ (by simpa using hK)]at hb3)
  | fail)
 go_ret
 exact⟨w.heap.size+1,rfl,by omega,hb3,((Qaa _ _).trans hl2).only ho3 (by omega)⟩
section
variable {ops:Array Oper} {rest:List Oper} {o:Oper} {a:Act} {w:World} {Q:Exit→Act→World→Prop}
theorem Qfi (hgd:Region.wanted o (yielded ops a.tmps)=true) (x:Operand) (ho:o.op= .load 30 x) {g off:Nat} {K:List UInt8} (hc:∀j v,(K.map W8)[j]?=some v→w.cell? ⟨g,off+j,none⟩=some v) (hl:K.length=32) (hx:a.eval x= .pointer (some ⟨g,off,none⟩))
 (h:wpList Tryz.prog ops Q rest (a.put o.dst (.agg (K.map W8).toArray)) w):wpList Tryz.prog ops Q (o :: rest) a w:=
 Qay hgd _ x ho g off _ hc hx _ Tryz.underlying30 rfl (by rw[QCG,hl];exact Qbe) h
end
theorem QhV {w:World} {b off n:Nat} {K:List UInt8} (hb:b<w.heap.size) (hc:∀j v,(K.map W8)[j]?=some v→w.cell? ⟨b,off+j,none⟩=some v) (hn:K.length=n):RdB w (some ⟨b,off,none⟩) n K:=
 ⟨by rw[QCG,hn],fun _=>⟨b,off,rfl,hb,hc⟩⟩
def pubK (K:List UInt8):List UInt8:=Qbj K (nb 9)
theorem Qnb (K:List UInt8):(pubK K).length=32:=QaV _ _
def QBV:List UInt8:=[110,111,100,101]
def keyK (seed:List UInt8) (s:ByteArray):List UInt8:=expB (QbH QBV seed) (strB s) 32
theorem QmS (seed:List UInt8) (s:ByteArray):(keyK seed s).length=32:=Qiy _ _ _
def keyY (seed:List UInt8) (s:ByteArray):Y32:=⟨keyK seed s,QmS seed s⟩
def pubY (K:List UInt8):Y32:=⟨pubK K,Qnb K⟩
def keyed (seed:List UInt8) (i:Nat) (s:ByteArray):Nod:=⟨s,QC4 (i+1),keyY seed s,pubY (keyK seed s)⟩
theorem Qd8 {P:Program} {t:TypeId} {d:TypeDesc} {k:Nat} {v:Value} (hu:P.underlying t=some d) (hd:QbI d=false) {zs:List Value} (hz:zs[k]?=some v) (w:World):(part t zs.toArray k).run P w= .ok v w:=by
 have ha:(isAgg t).run P w= .ok false w:=by
  unfold isAgg
  simp only[Sem.run_bind,run_underlying hu]
  cases d<;>simp_all [QbI]
 unfold part
 simp[Sem.run_bind,ha,Result.andThen_ok,hz]
theorem QlK {P:Program} {d k:Nat} {t:TypeId} {f:Field} {fs:List Field} (hf:f.type=t) (hu:P.underlying t=some .string) (hn:f.name≠ "_") {xs ys:List Value} {p q:ByteArray} (ho:f.offset=k) (hp:xs[k]?=some (.string p)) (hq:ys[k]?=some (.string q)) (w:World):
 (Op.eqFields (d+1) xs.toArray ys.toArray (f :: fs)).run P w=if p.toList==q.toList then (Op.eqFields (d+1) xs.toArray ys.toArray fs).run P w else .ok false w:=by
 rw[Op.eqFields,if_pos hn]
 simp only[Sem.run_bind,hf,ho,Qd8 hu rfl hp,Qd8 hu rfl hq,Result.andThen_ok,run_equalIn_string w d t p q hu]
 cases p.toList==q.toList<;>simp
theorem Qky {P:Program} {d k:Nat} {t:TypeId} {f:Field} {fs:List Field} (hf:f.type=t) (hu:P.underlying t=some (.int .u64)) (hn:f.name≠ "_") {xs ys:List Value} {p q:UInt64} (ho:f.offset=k) (hp:xs[k]?=some (W64 p)) (hq:ys[k]?=some (W64 q)) (w:World):
 (Op.eqFields (d+1) xs.toArray ys.toArray (f :: fs)).run P w=if p==q then (Op.eqFields (d+1) xs.toArray ys.toArray fs).run P w else .ok false w:=by
 rw[Op.eqFields,if_pos hn]
 simp only[Sem.run_bind,hf,ho,Qd8 hu rfl hp,Qd8 hu rfl hq,Result.andThen_ok,QiE t _ hu d p q w]
 cases p==q<;>simp
def Qqs (x y:Nod):Bool:=x.nm.toList==y.nm.toList&&(x.id==y.id&&(x.priv.val==y.priv.val&&x.pub.val==y.pub.val))
@[go_sem] theorem QyE (x:Nod):Qqs x x=true:=by simp[Qqs]
theorem Qma (x:Nod):((NC x).drop 2).take 32=x.priv.val.map W8:=by
 have h1:(x.priv.val.map W8).length=32:=by rw[QCG,x.priv.2]
 rw[NC,QEf,QEf,QD8,QDV h1]
theorem Qoe (x:Nod):((NC x).drop 34).take 32=x.pub.val.map W8:=by
 have h1:(x.priv.val.map W8).length=32:=by rw[QCG,x.priv.2]
 rw[NC,show (34:Nat)=32+1+1 from rfl,QEf,QEf,QDp h1,QCT (by rw[QCG,x.pub.2];omega)]
set_option maxRecDepth 100000 in
theorem Qh8 (x y:Nod) (w:World) {fs:Array Field} (hu:Tryz.prog.underlying 74=some (.struct fs)):(Op.eqFields 9999 (NC x).toArray (NC y).toArray fs.toList).run Tryz.prog w= .ok (Qqs x y) w:=by
 rw[Tryz.underlying74]at hu
 cases hu
 rw[QlK (d:=9998) (k:=0) rfl Tryz.underlying9 (by decide) rfl rfl rfl,Qky (d:=9998) (k:=1) rfl Tryz.underlying23 (by decide) rfl rfl rfl,
  Qb3 (d:=9997) (k:=2) rfl (by decide) rfl (Qma x) (Qma y) x.priv.2 y.priv.2,Qb3 (d:=9997) (k:=34) rfl (by decide) rfl (Qoe x) (Qoe y) x.pub.2 y.pub.2,Qdd]
 rw[Qqs]
 cases x.nm.toList==y.nm.toList<;>cases x.id==y.id<;>cases x.priv.val==y.priv.val<;>cases x.pub.val==y.pub.val<;>rfl
theorem Qyp:Tryz.prog.eqGuardType Tryz.prog.depth 74=false:=by kernel_rfl
@[go_sem high] theorem Qyj (op:BinOp) (x y:Operand) (xs ys:Array Value) (w:World):(eqGuard op 74 x y (.agg xs) (.agg ys)).run Tryz.prog w= .ok () w:=run_eqGuard_agg w op _ x y xs ys Qyp
set_option maxRecDepth 100000 in
@[go_sem high] theorem QwN (x y:Nod) (w:World):(binOp .eql 74 (.agg (NC x).toArray) (.agg (NC y).toArray)).run Tryz.prog w= .ok (.bool (Qqs x y)) w:=by
  rw[Qgd Tryz.underlying74 (by kernel_rfl),Qh8 x y w Tryz.underlying74]
  rfl
set_option maxRecDepth 100000 in
@[go_sem high] theorem Qx3 (x y:Nod) (w:World):(binOp .neq 74 (.agg (NC x).toArray) (.agg (NC y).toArray)).run Tryz.prog w= .ok (.bool (!Qqs x y)) w:=by
  rw[Qic Tryz.underlying74 (by kernel_rfl),Qh8 x y w Tryz.underlying74]
  rfl
theorem Qzg:(Tryz.prog.info? 74).map (·.size)=some 66:=by kernel_rfl
section
variable {ops:Array Oper} {rest:List Oper} {o:Oper} {a:Act} {w:World} {Q:Exit→Act→World→Prop}
theorem Quy (hgd:Region.wanted o (yielded ops a.tmps)=true) (x:Operand) (ho:o.op= .load 74 x) {g off:Nat} {y:Nod} (hc:∀i v,(NC y)[i]?=some v→w.cell? ⟨g,off+i,none⟩=some v) (hx:a.eval x= .pointer (some ⟨g,off,none⟩))
 (h:wpList Tryz.prog ops Q rest (a.put o.dst (.agg (NC y).toArray)) w):wpList Tryz.prog ops Q (o :: rest) a w:=
 Qay hgd _ x ho g off _ hc hx _ Tryz.underlying74 rfl (by rw[Qaw];exact Qzg) h
end
theorem QB3:(Tryz.prog.info? 86).bind (·.zero)=some (.agg (NC nod0).toArray):=by kernel_rfl
theorem Qns:(Tryz.prog.info? 86).map (·.size)=some 66:=by kernel_rfl
theorem QpP (l:List Value) (x:Nod) (h:l.length=66):Qao l 0 (NC x)=NC x:=Qas _ _ (by rw[Qaw,h])
theorem QiA (x:Nod):Tryz.prog.built 86 [(0,.agg (NC x).toArray)]=some (NC x).toArray:=by
 rw[Qa7 (pl:=[(0,66)]) Tryz.underlying86 QB3 (by kernel_rfl),Qbk (vs:=NC x) (off:=0) rfl (by rw[Qaw];rfl) (by rw[Qaw,Qaw];omega),Qct,QpP _ _ (Qaw _)]
section
variable {ops:Array Oper} {rest:List Oper} {o:Oper} {a:Act} {w:World} {Q:Exit→Act→World→Prop}
theorem QjV (hgd:Region.wanted o (yielded ops a.tmps)=true) (x:Operand) (ho:o.op= .load 86 x) {g off:Nat} {y:Nod} (hc:∀i v,(NC y)[i]?=some v→w.cell? ⟨g,off+i,none⟩=some v) (hx:a.eval x= .pointer (some ⟨g,off,none⟩))
 (h:wpList Tryz.prog ops Q rest (a.put o.dst (.agg (NC y).toArray)) w):wpList Tryz.prog ops Q (o :: rest) a w:=
 Qay hgd _ x ho g off _ hc hx _ Tryz.underlying86 rfl (by rw[Qaw];exact Qns) h
theorem QmU {J:Act→Prop} (x:Operand) (ho:o.op= .load 86 x) {w0:World} {g off:Nat} {y:Nod} (hc:∀i v,(NC y)[i]?=some v→w0.cell? ⟨g,off+i,none⟩=some v) (hg:g<w0.heap.size) (hx:a.eval x= .pointer (some ⟨g,off,none⟩)) (h:J (a.put o.dst (.agg (NC y).toArray))):
 o.quiet Tryz.prog a (fun w'=>∃x,w'=grow w0 x) J:=
 Qa3 _ x ho g off (NC y) (fun w' hw j v hv=>by obtain⟨y,rfl⟩:=hw;exact ((Later.below ⟨y,rfl⟩).cell (p:=⟨g,off+j,none⟩) hg).trans (hc j v hv)) hx _ Tryz.underlying86 rfl (by rw[Qaw];exact Qns) h
end
theorem QrE {w:World} {g:Nat} {t:TypeId} {y:Nod} (h:Blk w g t (NC y)):∀i v,(NC y)[i]?=some v→w.cell? ⟨g,0+i,none⟩=some v:=fun i v hv=>by
 rw[QC6]
 exact h.cellD i hv
set_option maxRecDepth 100000 in
theorem Qi1 (x:Nod) (w:World):
 Calls Tryz.prog 60 #[.agg (NC x).toArray] w fun e w'=>∃g,e= .returned (.slice (some ⟨g,0,none⟩) 32 32)∧w.heap.size≤g∧Blk w' g 5 (x.pub.val.map W8)∧Later w w':=by
 have hb0:Blk (w.alloc (.cells (NC x).toArray 86)) w.heap.size 86 (NC x):=Blk.new _ _ _
 have hc:∀j v,(x.pub.val.map W8)[j]?=some v→(w.alloc (.cells (NC x).toArray 86)).cell? ⟨w.heap.size,34+j,none⟩=some v:=fun j v hv=>hb0.cellD _ (Qwv x hv)
 go_enter Tryz.func60,Tryz.ntmps60
 go_wp2_with (first
  | (refine Qfi rfl _ rfl hc x.pub.2 rfl ?_)
  | fail)
 (with_reducible refine (QfU x.pub.val x.pub.2 _).mono ?_);rintro e w2 ⟨g2,rfl,hg2,hb2,l2⟩
 go_wp2
 go_ret
 exact⟨g2,rfl,by simp at hg2;omega,hb2,(Qaa _ _).trans l2⟩
set_option maxRecDepth 100000 in
theorem QhT (x:Nod) (w:World):
 Calls Tryz.prog 33 #[.agg (NC x).toArray] w fun e w'=>∃g,e= .returned (.slice (some ⟨g,0,none⟩) 32 32)∧w.heap.size≤g∧Blk w' g 5 (x.priv.val.map W8)∧Later w w':=by
 have hb0:Blk (w.alloc (.cells (NC x).toArray 86)) w.heap.size 86 (NC x):=Blk.new _ _ _
 have hc:∀j v,(x.priv.val.map W8)[j]?=some v→(w.alloc (.cells (NC x).toArray 86)).cell? ⟨w.heap.size,2+j,none⟩=some v:=fun j v hv=>hb0.cellD _ (Qm0 x hv)
 go_enter Tryz.func33,Tryz.ntmps33
 go_wp2_with (first
  | (refine Qfi rfl _ rfl hc x.priv.2 rfl ?_)
  | fail)
 (with_reducible refine (QfU x.priv.val x.priv.2 _).mono ?_);rintro e w2 ⟨g2,rfl,hg2,hb2,l2⟩
 go_wp2
 go_ret
 exact⟨g2,rfl,by simp at hg2;omega,hb2,(Qaa _ _).trans l2⟩
end Go.Proofs.YtdhgpkdjdmlphaaGreat
namespace Go.Proofs.YtdhgpkdjdmlphaaGreat
open Go.RowKit
structure Prt where
 kd:UInt8
 id:UInt64
 ix:Int
 ct:Int
 da:List UInt8
def prt0:Prt:=⟨0,0,0,0,[]⟩
def PaC (p:Prt) (v:Value):List Value:=[W8 p.kd,W64 p.id,.int .i64 p.ix,.int .i64 p.ct,v]
def prtE (p:Prt):Nat:=
 if p.kd<1∨3<p.kd then 1 else if 450<p.da.length then 2 else if p.ct<1∨16<p.ct∨p.ix<0∨p.ct≤p.ix then 3
 else if p.kd≠1∧p.ct≠1 then 3 else if p.kd=2∧(p.id≠0∨p.da.length≠0) then 3 else 0
abbrev Y16:={l:List UInt8 // l.length=16}
structure Cmd where
 kd:UInt8
 fl:UInt8
 dl:UInt32
 nx:UInt64
 ma:Y16
def QbE:Y16:=⟨QCC 16 0,by simp⟩
def cmd0:Cmd:=⟨0,0,0,0,QbE⟩
def CC (c:Cmd):List Value:=W8 c.kd :: W8 c.fl :: W32 c.dl :: W64 c.nx :: c.ma.val.map W8
theorem Qan (c:Cmd):(CC c).length=20:=by simp[CC,c.ma.2]
theorem Qys (c:Cmd):(CC c).drop 4=c.ma.val.map W8:=rfl
abbrev pid (q:Prt):Prt:=q
section
variable {α:Type} (pr:α→Prt)
def tkE (id:UInt64) (ks:List α) (p:Prt):Nat:=
 if p.kd≠1∨prtE p≠0 then 3 else if p.id≠id then 4 else if ks.any (fun q=>(pr q).ct != p.ct||(pr q).ix==p.ix) then 3 else 0
def tkK (id:UInt64) (ks:List α) (x:α):List α:=if tkE pr id ks (pr x)=0 then ks++[x] else ks
end
structure KeptOk (ks:List Prt):Prop where
 good:∀q∈ks,q.kd=1∧prtE q=0
 same:∀q∈ks,∀r∈ks,q.ct=r.ct
 nd:(ks.map (·.ix)).Nodup
theorem Qtd {p:Prt} (h:prtE p=0):1≤p.ct∧p.ct≤16∧0≤p.ix∧p.ix<p.ct∧p.da.length≤450:=by
 unfold prtE at h
 split at h
 ·cases h
 split at h
 ·cases h
 split at h
 ·cases h
 rename_i h1 h2 h3
 omega
theorem QtD {id:UInt64} {ks:List Prt} {p:Prt} (h:tkE pid id ks p=0):p.kd=1∧prtE p=0∧p.id=id∧(∀ q∈ks,q.ct=p.ct∧q.ix≠p.ix):=by
 unfold tkE at h
 split at h
 ·cases h
 split at h
 ·cases h
 split at h
 ·cases h
 rename_i h1 h2 h3
 refine⟨Classical.not_not.1 fun hc=>h1 (.inl hc),Classical.not_not.1 fun hc=>h1 (.inr hc),Classical.not_not.1 h2,fun q hq=>?_⟩
 have h4:(q.ct != p.ct||q.ix==p.ix)=false:=by
  cases hb:(q.ct != p.ct||q.ix==p.ix) with
  | false=>rfl
  | true=>exact absurd (List.any_eq_true.2 ⟨q,hq,hb⟩) h3
 simp only[Bool.or_eq_false_iff,bne_eq_false_iff_eq,beq_eq_false_iff_ne]at h4
 exact h4
theorem KeptOk.snoc {id:UInt64} {ks:List Prt} {p:Prt} (h:KeptOk ks):KeptOk (tkK pid id ks p):=by
 unfold tkK
 split
 ·rename_i h0
  obtain⟨h1,h2,_,h4⟩:=QtD h0
  refine⟨fun q hq=>?_,fun q hq r hr=>?_,?_⟩
  ·rcases QD7.1 hq with hq|hq
   ·exact h.good q hq
   ·obtain rfl:q=p:=by simpa using hq
    exact⟨h1,h2⟩
  ·rcases QD7.1 hq with hq|hq<;>rcases QD7.1 hr with hr|hr
   ·exact h.same q hq r hr
   ·have e:r=p:=by simpa using hr
    rw[e]
    exact (h4 q hq).1
   ·have e:q=p:=by simpa using hq
    rw[e]
    exact (h4 r hr).1.symm
   ·have e:q=p:=by simpa using hq
    have e':r=p:=by simpa using hr
    rw[e,e']
  ·rw[QDo,List.nodup_append]
   refine⟨h.nd,by simp,fun a ha b hb=>?_⟩
   obtain rfl:b=p.ix:=by simpa using hb
   obtain⟨q,hq,rfl⟩:=QDu.1 ha
   exact (h4 q hq).2
 ·exact h
theorem Qiq:∀(n:Nat) (l:List Int),l.Nodup→(∀ i∈l,0≤i∧i<n)→l.length≤n
 | 0,l,_,h=>by
   cases l with
   | nil=>exact QCN _
   | cons i l=>have:=h i (by simp);omega
 | n+1,l,hn,h=>by
   have hb:(l.erase (n:Int)).length≤n:=by
    refine Qiq n _ (hn.erase _) fun i hi=>?_
    have h1:=h i (List.mem_of_mem_erase hi)
    have h2:i≠(n:Int):=fun e=>by subst e;exact (List.Nodup.not_mem_erase hn) hi
    omega
   have:=List.length_erase_of_mem (a:=(n:Int)) (l:=l)
   by_cases hm:(n:Int)∈l
   ·rw[this hm]at hb
    omega
   ·rw[List.erase_of_not_mem hm]at hb
    omega
theorem KeptOk.le {ks:List Prt} (h:KeptOk ks) {c:Int} (hc:∀q∈ks,q.ct=c) (h0:0≤c):(ks.length:Int)≤c:=by
 have:=Qiq c.toNat (ks.map (·.ix)) h.nd (fun i hi=>by
  obtain⟨q,hq,rfl⟩:=QDu.1 hi
  have:=Qtd (h.good q hq).2
  have:=hc q hq
  omega)
 rw[QCG]at this
 omega
def daAt (ks:List Prt) (i:Nat):List UInt8:=((ks.find? (fun q=>q.ix==(i:Int))).map (·.da)).getD []
def whole (ks:List Prt):List UInt8:=(QDt ks.length).flatMap fun (i:Nat)=>(ks.filter (fun q=>q.ix==(i:Int))).flatMap (·.da)
structure Arr where
 pt:Prt
 kd:UInt8
 to:UInt64
 tk:Int
 ma:Y16
structure Ltr where
 to:UInt64
 id:UInt64
 tk:Int
 tx:List UInt8
structure Arv where
 ar:Arr
 va:Value
def AvOk (w:World) (x:Arv):Prop:=∃A n c,x.va= .slice A n c∧n≤c∧RdB w A n x.ar.pt.da
theorem AvOk.later {w w':World} {x:Arv} (h:AvOk w x) (hl:Later w w'):AvOk w' x:=by
 obtain⟨A,n,c,h1,h2,h3⟩:=h
 exact⟨A,n,c,h1,h2,h3.later hl⟩
structure Vst where
 cm:Cmd
 id:UInt64
 tk:Int
end Go.Proofs.YtdhgpkdjdmlphaaGreat
namespace Go.Proofs.YtdhgpkdjdmlphaaGreat
open Go.RowKit
open Go.BigFrame
abbrev pz0:List Value:=[.int .u8 0,.int .u64 0,.int .i64 0,.int .i64 0,.slice none 0 0]
theorem QwA:(Tryz.prog.info? 25).bind (·.zero)=some (.agg (PaC prt0 (.slice none 0 0)).toArray):=by kernel_rfl
theorem QcN:(Tryz.prog.info? 25).map (·.size)=some 5:=by kernel_rfl
theorem QaM (p:Prt) (v:Value):(PaC p v).length=5:=rfl
theorem Qx2 (p:Prt) {v:Value} (h:v.oneCell'=true):∀u∈PaC p v,u.oneCell'=true:=by
 intro u hu
 simp only[PaC,QCV,QCW,or_false]at hu
 rcases hu with rfl|rfl|rfl|rfl|rfl<;>first|rfl|exact h
theorem Ql0:Tryz.prog.built 25 []=some (PaC prt0 (.slice none 0 0)).toArray:=by
 rw[Qa7 (pl:=[(0,1),(1,1),(2,1),(3,1),(4,1)]) Tryz.underlying25 QwA (by kernel_rfl),Qct]
theorem QrA (kd:UInt8) (id:UInt64) (ix ct:Int):Tryz.prog.built 25 [(0,W8 kd),(1,W64 id),(2,.int .i64 ix),(3,.int .i64 ct)]=some (PaC ⟨kd,id,ix,ct,[]⟩ (.slice none 0 0)).toArray:=by
 rw[Qa7 (pl:=[(0,1),(1,1),(2,1),(3,1),(4,1)]) Tryz.underlying25 QwA (by kernel_rfl),Qbk (vs:=[W8 kd]) (off:=0) rfl rfl (by simp[PaC]),Qbk (vs:=[W64 id]) (off:=1) rfl rfl (by simp[PaC,Qao]),Qbk (vs:=[.int .i64 ix]) (off:=2) rfl rfl (by simp[PaC,Qao]),Qbk (vs:=[.int .i64 ct]) (off:=3) rfl rfl (by simp[PaC,Qao]),Qct]
 rfl
section
variable {ops:Array Oper} {rest:List Oper} {o:Oper} {a:Act} {w:World} {Q:Exit→Act→World→Prop}
theorem Qbd (hgd:o.guard=none) (hd:o.dst=none) (x y:Operand) (ho:o.op= .store 25 x y) {g:Nat} {t:TypeId} {l:List Value} {p:Prt} {v:Value} (hg:Blk w g t l) (hx:a.eval x= .pointer (some ⟨g,0,none⟩)) (hy:a.eval y= .agg (PaC p v).toArray) (hv:v.oneCell'=true) (hl:l.length=5)
 (h:∀w',Blk w' g t (PaC p v)→Only g w w'→wpList Tryz.prog ops Q rest a w'):wpList Tryz.prog ops Q (o :: rest) a w:=
 QaJ hgd hd _ x y ho g t l _ hg hx hy 5 QcN rfl hl (Qx2 p hv) h
theorem QdK (hw:Region.wanted o (yielded ops a.tmps)=true) (x:Operand) (ho:o.op= .load 25 x) {g:Nat} {t:TypeId} {p:Prt} {v:Value} (hb:Blk w g t (PaC p v)) (hx:a.eval x= .pointer (some ⟨g,0,none⟩))
 (h:wpList Tryz.prog ops Q rest (a.put o.dst (.agg (PaC p v).toArray)) w):wpList Tryz.prog ops Q (o :: rest) a w:=
 Qay hw _ x ho g 0 _ (fun j v hv=>by rw[QC6];exact hb.cellD _ hv) hx _ Tryz.underlying25 rfl (by rw[QaM];exact QcN) h
end
theorem Qa5 {w:World} {g:Nat} {t:TypeId} {p:Prt} {v:Value} (h:Blk w g t (PaC p v)):w.cell? ⟨g,0,none⟩=some (W8 p.kd)∧w.cell? ⟨g,1,none⟩=some (W64 p.id)∧w.cell? ⟨g,2,none⟩=some (.int .i64 p.ix)∧w.cell? ⟨g,3,none⟩=some (.int .i64 p.ct)∧w.cell? ⟨g,4,none⟩=some v:=
 ⟨h.cellD 0 rfl,h.cellD 1 rfl,h.cellD 2 rfl,h.cellD 3 rfl,h.cellD 4 rfl⟩
theorem Qn2 (k:UInt8):k=1∨k=2∨k=3∨(k<1∨3<k):=by
 have e1:(1:UInt8).toNat=1:=rfl
 have e2:(2:UInt8).toNat=2:=rfl
 have e3:(3:UInt8).toNat=3:=rfl
 rw[QEr,QEr,←QDr,←QDr,←QDr]
 omega
theorem QyP (id:UInt64) (ix ct:Int) (da:List UInt8):prtE ⟨1,id,ix,ct,da⟩=if 450<da.length then 2 else if ct<1∨16<ct∨ix<0∨ct≤ix then 3 else 0:=by
 rw[prtE,if_neg (show ¬((1:UInt8)<1∨3<(1:UInt8)) by decide)]
 simp
theorem QzZ (id:UInt64) (ix ct:Int) (da:List UInt8):prtE ⟨2,id,ix,ct,da⟩=if 450<da.length then 2 else if ct<1∨16<ct∨ix<0∨ct≤ix then 3 else if ct≠1 then 3 else if id≠0∨da.length≠0 then 3 else 0:=by
 rw[prtE,if_neg (show ¬((2:UInt8)<1∨3<(2:UInt8)) by decide)]
 simp
theorem Qzx (id:UInt64) (ix ct:Int) (da:List UInt8):prtE ⟨3,id,ix,ct,da⟩=if 450<da.length then 2 else if ct<1∨16<ct∨ix<0∨ct≤ix then 3 else if ct≠1 then 3 else 0:=by
 rw[prtE,if_neg (show ¬((3:UInt8)<1∨3<(3:UInt8)) by decide)]
 simp
theorem QuL {p:Prt} (h:p.kd<1∨3<p.kd):prtE p=1:=by rw[prtE,if_pos h]
set_option maxRecDepth 100000 in
set_option maxHeartbeats 4000000 in
theorem Qjl (p:Prt) (A:Option Addr) (n c:Nat) (hn:p.da.length=n) (w:World):Calls Tryz.prog 89 #[.agg (PaC p (.slice A n c)).toArray] w fun e w'=>e= .returned (.int .i64 (prtE p:Nat))∧Later w w':=by
 obtain⟨kd,id,ix,ct,da⟩:=p
 simp only at hn
 have hb:Blk (w.alloc (.cells (PaC ⟨kd,id,ix,ct,da⟩ (.slice A n c)).toArray 25)) w.heap.size 25 (PaC ⟨kd,id,ix,ct,da⟩ (.slice A n c)):=Blk.new _ _ _
 obtain⟨c0,c1,c2,c3,c4⟩:=Qa5 hb
 have L:=Qaa w (.cells (PaC ⟨kd,id,ix,ct,da⟩ (.slice A n c)).toArray 25)
 clear hb
 obtain⟨E,hE⟩:∃E,prtE ⟨kd,id,ix,ct,da⟩=E:=⟨_,rfl⟩
 rw[hE]
 rcases Qn2 kd with rfl|rfl|rfl|hbad
 case inr.inr.inr=>
  have HE:=hid (hE.symm.trans (QuL (p:=⟨kd,id,ix,ct,da⟩) hbad))
  clear hE
  rcases hbad with h|h
  ·go_enter Tryz.func89,Tryz.ntmps89
   go_wp2_with fail
   go_ret
   exact⟨by rw[HE.out];rfl,L⟩
  ·by_cases h1:kd<1
   all_goals
    go_enter Tryz.func89,Tryz.ntmps89
    go_wp2_with fail
    go_ret
    exact⟨by rw[HE.out];rfl,L⟩
 all_goals
  have HE:=hE.symm.trans (by first|exact QyP id ix ct da|exact QzZ id ix ct da|exact Qzx id ix ct da)
  rw[hn]at HE
  replace HE:=hid HE
  clear hE
  by_cases h2:450<n
  ·have hd:decide ((450:Int)<(n:Int))=true:=decide_eq_true (by omega)
   replace HE:=hid (HE.out.trans (if_pos h2))
   go_enter Tryz.func89,Tryz.ntmps89
   go_wp2_with fail
   go_ret
   exact⟨by rw[HE.out];rfl,L⟩
  have hd:decide ((450:Int)<(n:Int))=false:=decide_eq_false (by omega)
  replace HE:=hid (HE.out.trans (if_neg h2))
  by_cases h3:ct<1∨16<ct∨ix<0∨ct≤ix
  ·replace HE:=hid (HE.out.trans (if_pos h3))
   by_cases k1:ct<1
   ·go_enter Tryz.func89,Tryz.ntmps89
    go_wp2_with fail
    go_ret
    exact⟨by rw[HE.out];rfl,L⟩
   by_cases k2:16<ct
   ·go_enter Tryz.func89,Tryz.ntmps89
    go_wp2_with fail
    go_ret
    exact⟨by rw[HE.out];rfl,L⟩
   by_cases k3:ix<0
   ·go_enter Tryz.func89,Tryz.ntmps89
    go_wp2_with fail
    go_ret
    exact⟨by rw[HE.out];rfl,L⟩
   have k4:ct≤ix:=by omega
   go_enter Tryz.func89,Tryz.ntmps89
   go_wp2_with fail
   go_ret
   exact⟨by rw[HE.out];rfl,L⟩
  replace HE:=hid (HE.out.trans (if_neg h3))
  have k1: ¬ct<1:=by omega
  have k2: ¬ 16<ct:=by omega
  have k3: ¬ix<0:=by omega
  have k4: ¬ct≤ix:=by omega
  clear h3
 ·go_enter Tryz.func89,Tryz.ntmps89
  go_wp2_with fail
  go_ret
  exact⟨by rw[HE.out];rfl,L⟩
 all_goals
  by_cases h4:ct=1
  case neg=>
   have hd4:(ct != 1)=true:=by simpa using h4
   replace HE:=hid (HE.out.trans (if_pos h4))
   go_enter Tryz.func89,Tryz.ntmps89
   go_wp2_with fail
   go_ret
   exact⟨by rw[HE.out];rfl,L⟩
  subst h4
  replace HE:=hid (HE.out.trans (if_neg (by simp)))
 ·cases e1:(id==0)
  ·have n1:(id != 0)=true:=by rw[bne,e1];rfl
   have hne:id≠0:=by simpa using e1
   replace HE:=hid (HE.out.trans (if_pos (.inl hne)))
   go_enter Tryz.func89,Tryz.ntmps89
   go_wp2_with fail
   go_ret
   exact⟨by rw[HE.out];rfl,L⟩
  ·have n1:(id != 0)=false:=by rw[bne,e1];rfl
   have heq:id=0:=by simpa using e1
   by_cases h5:n=0
   ·replace HE:=hid (HE.out.trans (if_neg (by simp[heq,h5])))
    have n2:((n:Int) != 0)=false:=by simp[h5]
    clear h5 heq
    go_enter Tryz.func89,Tryz.ntmps89
    go_wp2_with fail
    go_ret
    exact⟨by rw[HE.out];rfl,L⟩
   ·replace HE:=hid (HE.out.trans (if_pos (.inr h5)))
    have n2:((n:Int) != 0)=true:=by simp;omega
    clear h5 heq
    go_enter Tryz.func89,Tryz.ntmps89
    go_wp2_with fail
    go_ret
    exact⟨by rw[HE.out];rfl,L⟩
 ·go_enter Tryz.func89,Tryz.ntmps89
  go_wp2_with fail
  go_ret
  exact⟨by rw[HE.out];rfl,L⟩
def allZ (bs:List UInt8):Bool:=bs.all (· ==0)
theorem Qkm:∀(bs:List UInt8),allZ bs=true↔bs=QCC bs.length 0
 | []=>by simp[allZ]
 | b :: bs=>by
   have ih:=Qkm bs
   rw[allZ]at ih
   rw[allZ,QDO,QCZ,ih,QDq,QD6,List.cons.injEq,beq_iff_eq]
theorem QxJ {bs:List UInt8} {k:Nat} (hk:k<bs.length) (h:bs.getD k 0≠0):allZ bs=false:=by
 rw[allZ,List.all_eq_false]
 refine⟨bs[k],QDS hk,?_⟩
 rw[QCK,QCH hk]at h
 simpa using h
theorem Qux {bs:List UInt8} (h:∀k,k<bs.length→bs.getD k 0=0):allZ bs=true:=by
 rw[allZ,QDm]
 intro x hx
 obtain⟨k,hk,rfl⟩:=QEO hx
 have:=h k hk
 rw[QCK,QCH hk]at this
 simpa using this
set_option maxRecDepth 100000 in
theorem QoJ (A:Option Addr) (n c:Nat) (bs:List UInt8) (w:World) (hb:RdB w A n bs) (hn:n≤140737488355328):
 Calls Tryz.prog 111 #[.slice A n c] w fun e w'=>e= .returned (.bool (allZ bs))∧Later w w':=by
 have hl:=hb.len
 go_enter Tryz.func111,Tryz.ntmps111
 go_wp2
 go_loopw [7] (fun i wr=>∃k:Nat,i= .int .i64 k∧k≤n∧Hid (∀ j,j<k→bs.getD j 0=0)∧Later w wr) (fun i _=>n-(intOf i).toNat)
 case atStart=>exact⟨0,rfl,by omega,hid (fun j hj=>absurd hj (by omega)),Later.refl w⟩
 case round=>
  obtain⟨k,rfl,hk,hp,L⟩:=hrel
  by_cases hlt:k<n
  ·obtain⟨b,o,rfl,hb2,hc2⟩:=RdB.at_ (hb.later L) (by omega)
   have c1:=hc2 k hlt
   have hno:=hid (fun h=>QxJ (bs:=bs) (k:=k) (by omega) h)
   have hgo:=hid (fun h:bs.getD k 0=0=>Qjd (p:=fun j=>bs.getD j 0=0) hp.out h)
   clear hc2
   generalize bs.getD k 0=x at *
   cases hx:(x==0)
   ·have n1:(x != 0)=true:=by rw[bne,hx];rfl
    have hE:=hid (hno.out (by simpa using hx))
    go_wp2
    go_ret
    exact⟨by rw[hE.out];rfl,L⟩
   ·have n1:(x != 0)=false:=by rw[bne,hx];rfl
    have hG:=hid (hgo.out (by simpa using hx))
    go_wp2
    exact⟨⟨k+1,by go_num,by omega,hG,L⟩,by simp[intOf];omega⟩
  ·obtain rfl:k=n:=by omega
   have hE:=hid (Qux (bs:=bs) (by rw[hl];exact hp.out))
   go_wp2
   go_ret
   exact⟨by rw[hE.out];rfl,L⟩
set_option maxRecDepth 100000 in
theorem Qp3 (A:Option Addr) (n c:Nat) (bs:List UInt8) (w:World) (hb:RdB w A n bs) (hn:n≤1048576):
 Calls Tryz.prog 82 #[.slice A n c] w fun e w'=>e= .returned (.slice (some ⟨w.heap.size,0,none⟩) n n)∧Blk w' w.heap.size 5 (bs.map W8)∧Later w w':=by
 have hl:=hb.len
 go_enter Tryz.func82,Tryz.ntmps82
 go_wp2_with (first
  | (refine Qax rfl _ _ _ rfl 5 _ 1 Tryz.underlying22 QcR rfl _ _ _ _ n rfl rfl rfl rfl (by omega) (by omega) ?_;intro w1 hb1 hl1)
  | (refine QaC rfl _ _ _ _ rfl 5 Tryz.underlying22 QbY w.heap.size 0 n n _ _ hb1 A n c (bs.map W8) (RdB.later hb hl1) (QaW _) rfl rfl (by simp) ?_;intro w4 hb4 ho4
     rw[QCT (by rw[QCG,hl];omega),Qas _ _ (by rw[QCG,QCO,hl])]at hb4)
  | fail)
 go_ret
 exact⟨rfl,hb4,hl1.only ho4 (QCN _)⟩
def ctOf (ks:List Prt):Int:=(ks.getLast?.map (·.ct)).getD 0
def hvOf (ks:List Prt):List Bool:=(QDt 16).map fun (i:Nat)=>ks.any (fun q=>q.ix==(i:Int))
def MsC (id:UInt64) (ks:List Prt) (pv:List Value):List Value:=W64 id :: .int .i64 (ctOf ks) :: .int .i64 (ks.length:Nat) :: ((hvOf ks).map Value.bool++pv)
def PieceAt (w:World) (base:Nat) (v:Value) (da:List UInt8):Prop:=(v= .slice none 0 0∧da=[])∨∃gp,v= .slice (some ⟨gp,0,none⟩) da.length da.length∧base≤gp∧Blk w gp 5 (da.map W8)
structure MsgAt (w:World) (base g:Nat) (id:UInt64) (ks:List Prt) (pv:List Value):Prop where
 blk:Blk w g 204 (MsC id ks pv)
 low:base≤g
 len:pv.length=16
 pcs:∀i v,pv[i]?=some v→PieceAt w base v (daAt ks i)
section
variable {w w':World} {base g:Nat} {id:UInt64} {ks:List Prt} {pv:List Value}
theorem PieceAt.later {v:Value} {da:List UInt8} (h:PieceAt w base v da) (hl:Later w w'):PieceAt w' base v da:=
 h.imp (fun h=>h) fun ⟨gp,h1,h2,h3⟩=>⟨gp,h1,h2,h3.later hl⟩
theorem PieceAt.only {v:Value} {da:List UInt8} {t:TypeId} {l:List Value} (h:PieceAt w base v da) (hg:Blk w g t l) (hne:t≠5) (ho:Only g w w'):PieceAt w' base v da:=
 h.imp (fun h=>h) fun ⟨gp,h1,h2,h3⟩=>⟨gp,h1,h2,h3.only ho (fun e=>by
  subst e
  have:=hg.symm.trans h3
  simp only[Option.some.injEq,Obj.cells.injEq]at this
  exact hne this.2.1)⟩
theorem MsgAt.later (h:MsgAt w base g id ks pv) (hl:Later w w'):MsgAt w' base g id ks pv:=⟨h.blk.later hl,h.low,h.len,fun i v hv=>(h.pcs i v hv).later hl⟩
theorem MsgAt.cells (h:MsgAt w base g id ks pv):w.cell? ⟨g,0,none⟩=some (W64 id)∧w.cell? ⟨g,1,none⟩=some (.int .i64 (ctOf ks))∧w.cell? ⟨g,2,none⟩=some (.int .i64 (ks.length:Nat)):=
 ⟨h.blk.cellD 0 rfl,h.blk.cellD 1 rfl,h.blk.cellD 2 rfl⟩
end
theorem KeptOk.ct {ks:List Prt} (h:KeptOk ks) (hne:ks≠[]):1≤ctOf ks∧ctOf ks≤16∧(ks.length:Int)≤ctOf ks∧∀q∈ks,q.ct=ctOf ks:=by
 have hl:ks.getLast?=some (ks.getLast hne):=List.getLast?_eq_some_getLast hne
 have hm:=List.getLast_mem hne
 generalize ks.getLast hne=l at hl hm
 have hc:ctOf ks=l.ct:=by rw[ctOf,hl];rfl
 obtain⟨h1,h2,_⟩:=Qtd (h.good l hm).2
 have hs:∀q∈ks,q.ct=l.ct:=fun q hq=>h.same q hq l hm
 rw[hc]
 exact⟨h1,h2,h.le hs (by omega),hs⟩
end Go.Proofs.YtdhgpkdjdmlphaaGreat
namespace Go.Proofs.YtdhgpkdjdmlphaaGreat
open Go.RowKit Go.Maps
def ptrV:Option Nat→Value
 | none=>.pointer none
 | some b=>.pointer (some ⟨b,0,none⟩)
def ptrD:Option Nat→DataW Unit
 | none=>.lit (.bool false)
 | some b=>.lit (.int .i64 b)
def ptrR (v:Value):Option (DataW Unit×List MemPlace):=
 match v with
 | .pointer none=>some (ptrD none,[])
 | .pointer (some ⟨b,0,none⟩)=>some (ptrD (some b),[])
 | _=>none
theorem Qxg (x:Option Nat):ptrR (ptrV x)=some (ptrD x,[]):=by cases x<;>rfl
structure PKey (P:Program) (k:TypeId) (α:Type) where
 kv:α→Value
 kl:α→Lit
 ok:∀x,keyOf P k (kv x)=some (kl x)
 inj:∀x y,kv x=kv y→x=y
 law:Keyed P k
def PMap {P:Program} {k:TypeId} {α:Type} (w:World) (K:PKey P k α) (b n:Nat) (f:α→Option Nat):Prop:=
 ∃D:DataW Unit,w.ownsMap P k ptrR b n D∧∀x,D.atKey (K.kl x) (ptrD none)=ptrD (f x)
section
variable {P:Program} {k t e:TypeId} {α:Type} {w w':World} {K:PKey P k α} {b n:Nat} {f:α→Option Nat}
theorem PKey.kl_inj (K:PKey P k α) {x y:α} (h:K.kl x=K.kl y):x=y:=K.inj x y (K.law.inj (K.ok x) (h ▸ K.ok y))
theorem PMap.made (w:World) (K:PKey P k α):PMap (w.alloc (.map #[] 0)) K w.heap.size 0 (fun _=>none):=⟨_,World.ownsMap_made w P k ptrR,fun _=>rfl⟩
theorem PMap.only (h:PMap w K b n f) {g:Nat} (ho:Only g w w') (hne:b≠g):PMap w' K b n f:=by
 obtain⟨D,h1,h2⟩:=h
 exact⟨D,h1.kept ho (by simpa using hne),h2⟩
theorem PMap.grown (h:PMap w K b n f) {row:Option Nat} (ho:w.grownBy w' row) (hne:some b≠row):PMap w' K b n f:=by
 obtain⟨D,h1,h2⟩:=h
 exact⟨D,h1.kept ho hne,h2⟩
theorem PMap.lt (h:PMap w K b n f):b<w.heap.size:=let ⟨_,h1,_⟩:=h;h1.lt
theorem PMap.later (h:PMap w K b n f) (hl:Later w w'):PMap w' K b n f:=by
 refine h.only (hl.onlyAny (b+1)) (by omega)
theorem PMap.put [DecidableEq α] (h:PMap w K b n f) (ht:P.underlying t=some (.map k e)) (hn:n<maxLen) (x:α) (g:Nat):
 ∃w',(Instr.mapUpdate t (.map (some b)) (K.kv x) (.pointer (some ⟨g,0,none⟩))).run P w= .ok () w'∧PMap w' K b (n+1) (fun y=>if y=x then some g else f y)∧Only b w w':=by
 obtain⟨D,h1,h2⟩:=h
 obtain⟨w',hrun,h3,h4⟩:=h1.update K.law ht hn (K.ok x) (Qxg (some g))
 refine⟨w',hrun,⟨_,h3,fun y=>?_⟩,h4⟩
 by_cases hyx:y=x
 ·subst hyx
  simp only[if_true]
  exact atKey_put_same h1.isMap (K.law.key (K.ok y)) _ _
 ·simp only[hyx,if_false]
  rw[atKey_put_other (fun hc=>hyx (K.kl_inj hc))]
  exact h2 y
variable {ops:Array Oper} {rest:List Oper} {o:Oper} {a:Act} {Q:Exit→Act→World→Prop}
end
theorem QzN:(199:Nat)<Tryz.prog.types.size:=of_decide_eq_true (by kernel_rfl)
theorem Qz8:Tryz.prog.keyTypeAt (Tryz.prog.types.size+1) 199=true:=by kernel_rfl
theorem QzV:(match Tryz.prog.underlying 199 with|some (.array _ _)|some (.struct _)=>true|_=>false)=true:=by kernel_rfl
theorem Qzr:laidOutB Tryz.prog=true:=by kernel_rfl
set_option maxRecDepth 100000 in
theorem QBW:Keyed Tryz.prog 199:=Keyed.of_law (deep_law_laid Qzr (m:=3) (by omega) QzN (by kernel_rfl) QzV)
theorem QqX:Tryz.prog.cellsOf 199=2:=by kernel_rfl
theorem Qx0:Tryz.prog.cellsOf 23=1:=by kernel_rfl
theorem wf64 (x:UInt64):(Lit.int .u64 (x.toNat:Int)).wf=true:=by
 have:=x.toNat_lt
 simp[Lit.wf,IntKind.min,IntKind.max,IntKind.signed,IntKind.bits]
 omega
theorem QsE (d:Nat) (x:UInt64):Tryz.prog.keyLits (d+1) 23 [W64 x]=some [.int .u64 (x.toNat:Int)]:=by
 unfold Program.keyLits
 rw[Tryz.underlying23]
 simp[W64,wf64]
theorem QrH (d:Nat) (x y:UInt64):Tryz.prog.keyLits (d+2) 199 [W64 x,W64 y]=some [.int .u64 (x.toNat:Int),.int .u64 (y.toNat:Int)]:=by
 unfold Program.keyLits
 rw[Tryz.underlying199]
 simp[QqX,Qx0,QsE]
def Qzj:PKey Tryz.prog 199 (UInt64×UInt64) where
 kv x:=.agg #[W64 x.1,W64 x.2]
 kl x:=.string (keyBytes [.int .u64 (x.1.toNat:Int),.int .u64 (x.2.toNat:Int)])
 ok x:=by
  have hf:(Value.agg #[W64 x.1,W64 x.2]).formed Tryz.prog 199=true:=by
   simp[Value.formed,Tryz.underlying199,QqX]
  unfold keyOf
  rw[Tryz.underlying199]
  have hk:Tryz.prog.keyType 199=true:=Qz8
  obtain⟨d,hd⟩:∃d,Tryz.prog.types.size+1=d+2:=⟨Tryz.prog.types.size-1,by have:=QzN;omega⟩
  simp only[hk,hf,Bool.and_self,if_true,hd]
  show (Tryz.prog.keyLits (d+2) 199 [W64 x.1,W64 x.2]).map _=_
  rw[QrH]
  rfl
 inj x y h:=by
  have h1:[W64 x.1,W64 x.2]=[W64 y.1,W64 y.2]:=congrArg Array.toList (Value.agg.inj h)
  have h2:W64 x.1=W64 y.1:=(List.cons.inj h1).1
  have h3:W64 x.2=W64 y.2:=(List.cons.inj (List.cons.inj h1).2).1
  have e:∀a b:UInt64,W64 a=W64 b→a=b:=fun a b h=>by
   have:(a.toNat:Int)=b.toNat:=by simpa [W64] using h
   exact QEx.1 (by omega)
  exact Prod.ext (e _ _ h2) (e _ _ h3)
 law:=QBW
end Go.Proofs.YtdhgpkdjdmlphaaGreat
namespace Go.Proofs.YtdhgpkdjdmlphaaGreat
open Go.RowKit
open Go.BigFrame
theorem KeptOk.small {ks:List Prt} (h:KeptOk ks):ks.length≤16:=by
 by_cases hne:ks=[]
 ·simp[hne]
 ·have:=h.ct hne
  omega
structure Ltv where
 lt:Ltr
 va:Option Addr
 vn:Nat
 vc:Nat
def LtC (y:Ltv):List Value:=[W64 y.lt.to,W64 y.lt.id,.int .i64 y.lt.tk,.slice y.va y.vn y.vc]
section
variable {w w':World} {base sz n:Nat} {e:TypeId} {v:Value} {vs:List Value}
theorem Ql1 {k:Nat} {es:Array MapEntry} {ck:Nat} (h:w.ownsRow base e sz v n vs) (hb:w.heap[k]?=some (.map es ck)) (ho:Only k w w'):w'.ownsRow base e sz v n vs:=by
 refine h.kept ho ?_
 rcases h.2 with ⟨rfl,_⟩|⟨g2,c2,cur2,rfl,_,hh2,_⟩
 ·exact .inl rfl
 ·refine .inr ?_
  intro hc
  have:k=g2:=by simpa [Value.ownBlock] using hc.symm
  subst this
  rw[hb]at hh2
  cases hh2
theorem QkU {k g:Nat} {t:TypeId} {l:List Value} {es:Array MapEntry} {ck:Nat} (h:Blk w g t l) (hb:w.heap[k]?=some (.map es ck)) (ho:Only k w w'):Blk w' g t l:=by
 refine h.only ho fun e=>?_
 subst e
 rw[Blk,hb]at h
 cases h
end
structure LSt (w wr:World) (bm n:Nat) (f:UInt64×UInt64→Option Nat) (K:UInt64×UInt64→List Prt) (v3:Value) (ys:List Ltv):Prop where
 lat:Later w wr
 map:PMap wr Qzj bm n f
 low:w.heap.size≤bm
 msg:∀x g,f x=some g→∃pv,MsgAt wr w.heap.size g x.2 (K x) pv
 non:∀x,f x=none→K x=[]
 inj:∀x y g,f x=some g→f y=some g→x=y
 own:wr.ownsRow w.heap.size 140 4 v3 ys.length (ys.flatMap LtC)
 txt:∀y∈ys,OwnB wr w.heap.size y.va y.vn y.vc y.lt.tx
section
variable {w wr w':World} {bm n:Nat} {f:UInt64×UInt64→Option Nat} {K:UInt64×UInt64→List Prt} {v3:Value} {ys:List Ltv}
theorem PMap.obj {P:Program} {k:TypeId} {α:Type} {w:World} {M:PKey P k α} {b n:Nat} {f:α→Option Nat} (h:PMap w M b n f):∃es ck,w.heap[b]?=some (.map es ck):=by
 obtain⟨_,⟨es,ck,h1,_⟩,_⟩:=h
 exact⟨es,ck,h1⟩
theorem LSt.later (h:LSt w wr bm n f K v3 ys) (hl:Later wr w'):LSt w w' bm n f K v3 ys:=
 ⟨h.lat.trans hl,h.map.later hl,h.low,fun x g hx=>(h.msg x g hx).imp fun _ hm=>hm.later hl,h.non,h.inj,QfA h.own hl,fun y hy=>QaB (h.txt y hy) hl⟩
theorem MsgAt.onlyM {base g k:Nat} {id:UInt64} {ks:List Prt} {pv:List Value} {es:Array MapEntry} {ck:Nat} (h:MsgAt wr base g id ks pv) (hb:wr.heap[k]?=some (.map es ck)) (ho:Only k wr w'):MsgAt w' base g id ks pv:=
 ⟨QkU h.blk hb ho,h.low,h.len,fun i v hv=>(h.pcs i v hv).imp (fun h=>h) fun ⟨gp,h1,h2,h3⟩=>⟨gp,h1,h2,QkU h3 hb ho⟩⟩
theorem MsgAt.grown {base g b sz m:Nat} {e:TypeId} {v:Value} {vs:List Value} {id:UInt64} {ks:List Prt} {pv:List Value} (h:MsgAt wr base g id ks pv) (hr:wr.ownsRow b e sz v m vs) (h1:(204:TypeId)≠e) (h2:(5:TypeId)≠e) (hg:wr.grownBy w' v.ownBlock):MsgAt w' base g id ks pv:=
 ⟨QcJ h.blk hr h1 hg,h.low,h.len,fun i v hv=>(h.pcs i v hv).imp (fun h=>h) fun ⟨gp,k1,k2,k3⟩=>⟨gp,k1,k2,QcJ k3 hr h2 hg⟩⟩
theorem LSt.put (h:LSt w wr bm n f K v3 ys) {x0:UInt64×UInt64} {g:Nat} {pv:List Value} (hx:f x0=none) (hm:MsgAt wr w.heap.size g x0.2 [] pv) (hf:∀x,f x≠some g) (hp:PMap w' Qzj bm (n+1) (fun x=>if x=x0 then some g else f x)) (ho:Only bm wr w'):
 LSt w w' bm (n+1) (fun x=>if x=x0 then some g else f x) K v3 ys:=by
 obtain⟨es,ck,hb⟩:=h.map.obj
 refine⟨h.lat.only ho h.low,hp,h.low,fun x g' hx'=>?_,fun x hx'=>?_,fun x y g' hx' hy'=>?_,Ql1 h.own hb ho,fun y hy=>?_⟩
 ·by_cases hxx:x=x0
  ·subst hxx
   simp only[if_true,Option.some.injEq]at hx'
   subst hx'
   exact⟨pv,by rw[h.non x hx];exact hm.onlyM hb ho⟩
  ·simp only[hxx,if_false]at hx'
   exact (h.msg x g' hx').imp fun _ hm=>hm.onlyM hb ho
 ·by_cases hxx:x=x0
  ·subst hxx
   simp at hx'
  ·simp only[hxx,if_false]at hx'
   exact h.non x hx'
 ·by_cases hxx:x=x0<;>by_cases hyy:y=x0
  ·exact hxx.trans hyy.symm
  ·simp only[hxx,hyy,if_true,if_false,Option.some.injEq]at hx' hy'
   subst hx'
   exact absurd hy' (hf y)
  ·simp only[hxx,hyy,if_true,if_false,Option.some.injEq]at hx' hy'
   subst hy'
   exact absurd hx' (hf x)
  ·simp only[hxx,hyy,if_false]at hx' hy'
   exact h.inj x y g' hx' hy'
 ·exact Ql1 (h.txt y hy) hb ho
end
end Go.Proofs.YtdhgpkdjdmlphaaGreat
namespace Go.Proofs.YtdhgpkdjdmlphaaGreat
open Go.ChangeShapes Go.WideShapes Go.ChangeAt Go.RowKit
end Go.Proofs.YtdhgpkdjdmlphaaGreat
namespace Go.Proofs.YtdhgpkdjdmlphaaGreat
open Go.ChangeShapes Go.WideShapes Go.ChangeAt Go.RowKit
open _root_.Go.Proofs.YtdhgpkdjdmlphaaGreat.Rows (uptoBulk uptoBulkAll uptoSmall)
theorem QtT {H:Type} (d:DataW H):1≤uptoBulk d:=by
 cases d with
 | lit l=>cases l<;>simp[uptoBulk]
 | _=>simp[uptoBulk]
theorem Qou {H:Type} {d:DataW H} {l:List (DataW H)} (h:d∈l):uptoBulk d≤uptoBulkAll l:=by
 induction l with
 | nil=>cases h
 | cons x r ih=>
   simp only[uptoBulkAll]
   cases QCV.1 h with
   | inl e=>subst e;omega
   | inr e=>have:=ih e;omega
theorem Qoi {H:Type} (l:List (DataW H)):l.length≤uptoBulkAll l:=by
 induction l with
 | nil=>simp[uptoBulkAll]
 | cons x r ih=>have:=QtT x;simp only[uptoBulkAll,QDq];omega
theorem Qqn {H:Type} {l:List (DataW H)} (hk:uptoSmall H l=true):uptoBulkAll l≤1048576:=of_decide_eq_true hk
section
variable {H:Type} {enc:TypeId×Value→H} {P:Program} {w:World} {base:Nat} {sp:Nat→Bool} {held:Bool}
theorem QtK {a:Addr} {c:List Value} (h:w.cells? base a 1=some c):∃u,c=[u]∧w.cell? a=some u:=by
 have e0:a.add 0=a:=by simp[Addr.add]
 unfold World.cells? at h
 split at h
 ·simp only[QEN,List.range_zero,QCI,List.mapM_cons,List.mapM_nil,e0]at h
  cases hcc:w.cell? a with
  | none=>simp[hcc]at h
  | some u=>simp[hcc]at h;exact⟨u,h.symm,rfl⟩
 ·cases h
theorem Qmp {a:Addr} {u:Value} (h:w.cell? a=some u):a.spot=none∧a.block<w.heap.size:=by
 unfold World.cell? at h
 split at h
 ·rename_i c t fz hc
  refine⟨?_,(Array.getElem?_eq_some_iff.1 hc).1⟩
  cases hs:a.spot with
  | none=>rfl
  | some x=>simp[hs]at h
 ·cases h
theorem Qua {t e:TypeId} {fuel:Nat} {v:Value} {x:DataW H×List MemPlace} (ht:P.underlying t=some (.slice e)) (hc:P.cellsOf e=1) (h:DataW.trod enc P w base sp held fuel t [v]=some x):
 ∃A n c,∃(vs:List Value) (xs:List (DataW H×List MemPlace)),v= .slice A n c∧n≤c∧c≤maxLen∧Rd w A n vs∧xs.length=n∧
  (∀ (j:Nat) u,vs[j]?=some u→∃y f,xs[j]?=some y∧DataW.trod enc P w base sp held f e [u]=some y)∧uptoBulkAll (xs.map (·.1))+1≤uptoBulk x.1:=by
 rcases DataW.trod_slice ht h with ⟨hcs,rfl⟩|⟨a,len,cap,elems,rest,n,rfl,hcs,rfl,hb,hl,hm,hlen,hel,hsp,hns⟩
 ·obtain rfl:v= .slice none 0 0:=by simpa using hcs
  exact⟨none,0,0,[],[],rfl,QCN _,Nat.zero_le _,⟨rfl,fun h=>absurd h (by omega)⟩,rfl,fun j u hu=>by simp at hu,by simp[uptoBulk,uptoBulkAll]⟩
 ·obtain rfl:v= .slice (some a) len cap:=by simpa using hcs
  have each:∀i,i<len→∃u y,w.cell? (a.add i)=some u∧elems[i]?=some y∧DataW.trod enc P w base sp held n e [u]=some y:=by
   intro i hi
   have hE:=hel i hi
   rw[hc,QEq]at hE
   have hy:elems[i]?=some (elems[i]'(by omega)):=QCH _
   rw[hy,Option.bind_eq_some_iff]at hE
   obtain⟨c1,hc1,hy1⟩:=hE
   obtain⟨u,rfl,hu⟩:=QtK hc1
   exact⟨u,_,hu,hy,hy1⟩
  refine⟨some a,len,cap,(QDt len).map fun i=>(w.cell? (a.add i)).getD undef,elems,rfl,hl,hm,⟨by simp,fun h0=>?_⟩,hlen,fun j u hu=>?_,?_⟩
  ·obtain⟨u,y,hu,_,_⟩:=each 0 h0
   have e0:a.add 0=a:=by simp[Addr.add]
   rw[e0]at hu
   obtain⟨h1,h2⟩:=Qmp hu
   obtain⟨b,o,s⟩:=a
   simp only at h1
   subst h1
   refine⟨b,o,rfl,h2,fun j v hv=>?_⟩
   rw[QCY]at hv
   have hj:j<len:=by
    rcases QDF j len with h|h
    ·exact h
    ·rw[QDW (by simpa using h)]at hv
     cases hv
   obtain⟨u',y',hu',_,_⟩:=each j hj
   rw[QEC hj]at hv
   simp only[QEc,Option.some.injEq,hu',QEH]at hv
   rw[←Qdl,hu',hv]
  ·rw[QCY]at hu
   have hj:j<len:=by
    rcases QDF j len with h|h
    ·exact h
    ·rw[QDW (by simpa using h)]at hu
     cases hu
   obtain⟨u',y',hu',hy',ht'⟩:=each j hj
   rw[QEC hj]at hu
   simp only[QEc,Option.some.injEq,hu',QEH]at hu
   exact⟨y',n,hy',hu ▸ ht'⟩
  ·simp only[uptoBulk]
   omega
theorem QjW {t e:TypeId} {fuel:Nat} {v:Value} {x:DataW H×List MemPlace} (ht:P.underlying t=some (.slice e)) (he:P.underlying e=some (.int .u8)) (hc:P.cellsOf e=1) (h:DataW.trod enc P w base sp held fuel t [v]=some x):
 ∃A n c bs,v= .slice A n c∧n≤c∧c≤maxLen∧RdB w A n bs∧bs.length+1≤uptoBulk x.1:=by
 obtain⟨A,n,c,vs,xs,rfl,h1,h2,h3,h4,h5,h6⟩:=Qua ht hc h
 have hb:∀(j:Nat) u,vs[j]?=some u→∃b:UInt8,u=W8 b:=by
  intro j u hu
  obtain⟨y,f,_,hy⟩:=h5 j u hu
  obtain⟨m,hm,rfl,hw⟩:=DataW.trod_int he hy
  obtain rfl:u= .int .u8 m:=by simpa using hm
  have hr:0≤m∧m≤255:=by simpa [Lit.wf,IntKind.min,IntKind.max,IntKind.signed,IntKind.bits] using hw
  exact⟨QDc m.toNat,by rw[W8,QDH];congr 1;omega⟩
 have hl:∀l:List Value,(∀ (j:Nat) u,l[j]?=some u→∃b:UInt8,u=W8 b)→∃bs:List UInt8,l=bs.map W8:=by
  intro l
  induction l with
  | nil=>exact fun _=>⟨[],rfl⟩
  | cons u l ih=>
    intro hl
    obtain⟨b,rfl⟩:=hl 0 u rfl
    obtain⟨bs,rfl⟩:=ih fun j v hv=>hl (j+1) v (by simpa using hv)
    exact⟨b :: bs,rfl⟩
 obtain⟨bs,rfl⟩:=hl vs hb
 refine⟨A,n,c,bs,rfl,h1,h2,h3,?_⟩
 have e1:bs.length=n:=by have:=h3.1;simpa using this
 have e2:=Qoi (xs.map (·.1))
 rw[QCG,h4]at e2
 omega
end
theorem QvV:Tryz.prog.cellsOf 5=1:=by kernel_rfl
section
variable {H:Type} {enc:TypeId×Value→H} {w:World} {base b0:Nat} {sp:Nat→Bool} {held:Bool} {r:Reach}
set_option maxRecDepth 100000 in
theorem QpJ {t:TypeId} {v:Value} {d:DataW H} {ps:List MemPlace} (ht:Tryz.prog.underlying t=some (.slice 5)) (hval:Value.okWide Tryz.prog w r b0 t v) (h:DataW.Trod enc Tryz.prog w base sp held t v d ps):
 ∃A n c bs,v= .slice A n c∧n≤c∧c≤maxLen∧RdB w A n bs∧bs.length+1≤uptoBulk d:=by
 obtain⟨A,n,c,rfl⟩:=okWide_slice ht hval
 obtain⟨f,hf⟩:=h
 obtain⟨A',n',c',bs,h1,h2⟩:=QjW ht Tryz.underlying5 QvV hf
 exact⟨A',n',c',bs,h1,h2⟩
end
section
variable {H:Type} {enc:TypeId×Value→H} {P:Program} {w:World} {base b0:Nat} {sp:Nat→Bool} {held:Bool} {r:Reach}
end
theorem QoM {α β:Type} (f:α→Option β):∀(l:List α) (ys:List β),l.mapM f=some ys→ys.length=l.length∧∀(i:Nat) x,l[i]?=some x→f x=ys[i]?
 | [],ys,h=>by
   simp only[List.mapM_nil,pure,Option.some.injEq]at h
   subst h
   exact⟨rfl,fun i x hx=>by simp at hx⟩
 | a :: l,ys,h=>by
   rw[List.mapM_cons]at h
   simp only[bind,Option.bind_eq_some_iff,pure,Option.some.injEq]at h
   obtain⟨y,hy,ys',h',rfl⟩:=h
   obtain⟨h1,h2⟩:=QoM f l ys' h'
   refine⟨by simp[h1],fun i x hx=>?_⟩
   cases i with
   | zero=>
     obtain rfl:a=x:=by simpa using hx
     simpa using hy
   | succ i=>simpa using h2 i x (by simpa using hx)
theorem QjY {w:World} {base k:Nat} {a:Addr} {cs:List Value} (h:w.cells? base a k=some cs):cs.length=k∧∀i,i<k→w.cell? (a.add i)=cs[i]?:=by
 unfold World.cells? at h
 split at h
 ·obtain⟨h1,h2⟩:=QoM _ _ _ h
  exact⟨by simpa using h1,fun i hi=>h2 i i (by rw[QEC hi])⟩
 ·cases h
theorem Qex {l:List Value} {i:Nat} {v:Value} (h:(l.drop i).take 1=[v]):l[i]?=some v:=by
 have:=congrArg (·[0]?) h
 simpa [QEl,QDN] using this
section
variable {H:Type} {enc:TypeId×Value→H} {w:World} {base:Nat} {sp:Nat→Bool} {held:Bool}
theorem Qoc {fuel:Nat} {cs:List Value} {x:DataW H×List MemPlace} (h:DataW.trod enc Tryz.prog w base sp held fuel 30 cs=some x):∃K:Y32,cs=K.val.map W8:=by
 obtain⟨xs,m,rfl,rfl,hl,hxl,he⟩:=DataW.trod_array Tryz.underlying30 h
 have hn:Tryz.prog.cellsOf 30=32:=by kernel_rfl
 have h1:Tryz.prog.cellsOf 5=1:=by kernel_rfl
 rw[hn]at hl
 rw[h1]at he
 have each:∀i,∃b:UInt8,i<32→cs[i]?=some (W8 b):=by
  intro i
  by_cases hi:i<32
  ·have:=he i hi
   rw[QCH (by omega),QEq]at this
   obtain⟨z,hz,_,hw⟩:=DataW.trod_int Tryz.underlying5 this
   have hr:0≤z∧z≤255:=by simpa [Lit.wf,IntKind.min,IntKind.max,IntKind.signed,IntKind.bits] using hw
   exact⟨_,fun _=>by rw[Qex hz,QbC z hr.1 (by omega)]⟩
  ·exact⟨0,fun h=>absurd h hi⟩
 obtain⟨f,hf⟩:=Classical.axiomOfChoice each
 refine⟨⟨(QDt 32).map f,by simp⟩,?_⟩
 apply List.ext_getElem?
 intro i
 rcases QDF i 32 with hi|hi
 ·rw[hf i hi,QCY,QCY,QEC hi]
  rfl
 ·rw[QDW (by omega),QDW (by simp;omega)]
set_option maxRecDepth 100000 in
theorem QtP {fuel:Nat} {cs:List Value} {x:DataW H×List MemPlace} (h:DataW.trod enc Tryz.prog w base sp held fuel 74 cs=some x):∃y:Nod,cs=NC y∧y.nm.size≤uptoBulk x.1:=by
 obtain⟨xs,m,rfl,rfl,hl,hxl,he⟩:=DataW.trod_struct Tryz.underlying74 h
 have hn:Tryz.prog.cellsOf 74=66:=by kernel_rfl
 have hS:Tryz.prog.cellsOf 9=1:=by kernel_rfl
 have hU:Tryz.prog.cellsOf 23=1:=by kernel_rfl
 have hB:Tryz.prog.cellsOf 30=32:=by kernel_rfl
 rw[hn]at hl
 have hxl4:xs.length=4:=hxl
 have e0:DataW.trod enc Tryz.prog w base sp held m 9 ((cs.drop 0).take (Tryz.prog.cellsOf 9))=xs[0]?:=he 0 _ rfl
 have e1:DataW.trod enc Tryz.prog w base sp held m 23 ((cs.drop 1).take (Tryz.prog.cellsOf 23))=xs[1]?:=he 1 _ rfl
 have e2:DataW.trod enc Tryz.prog w base sp held m 30 ((cs.drop 2).take (Tryz.prog.cellsOf 30))=xs[2]?:=he 2 _ rfl
 have e3:DataW.trod enc Tryz.prog w base sp held m 30 ((cs.drop 34).take (Tryz.prog.cellsOf 30))=xs[3]?:=he 3 _ rfl
 rw[hS,QCH (by omega)]at e0
 rw[hU,QCH (by omega)]at e1
 rw[hB,QCH (by omega)]at e2 e3
 obtain⟨s,hs,hx0,_⟩:=DataW.trod_string Tryz.underlying9 e0
 obtain⟨z,hz,_,hw⟩:=DataW.trod_int Tryz.underlying23 e1
 obtain⟨K,hK⟩:=Qoc e2
 obtain⟨P,hP⟩:=Qoc e3
 have hr:0≤z∧z≤18446744073709551615:=by simpa [Lit.wf,IntKind.min,IntKind.max,IntKind.signed,IntKind.bits] using hw
 have c0:=Qex hs
 have c1:=Qex hz
 rw[Qbc z hr.1 (by omega)]at c1
 refine⟨⟨s,QC4 z.toNat,K,P⟩,?_,?_⟩
 ·match cs,hl,c0,c1,hK,hP with
  | a :: b :: r,hl,c0,c1,hK,hP=>
    have hrl:r.length=64:=by simpa using hl
    rw[QEf,QEf,QD8]at hK
    rw[show (34:Nat)=32+1+1 from rfl,QEf,QEf,QCT (by simp;omega)]at hP
    obtain rfl:a= .string s:=by simpa using c0
    obtain rfl:b=W64 (QC4 z.toNat):=by simpa using c1
    rw[NC,←hK,←hP,QC9]
 ·have hb:xs[0].1= .lit (.string s.data.toList):=by rw[hx0]
  have:=Qou (d:=xs[0].1) (l:=xs.map (·.1)) (QDu.2 ⟨_,QDS _,rfl⟩)
  rw[hb]at this
  simp only[uptoBulk]at this ⊢
  have hsz:s.data.toList.length=s.size:=by simp
  show s.size≤_
  omega
end
end Go.Proofs.YtdhgpkdjdmlphaaGreat
