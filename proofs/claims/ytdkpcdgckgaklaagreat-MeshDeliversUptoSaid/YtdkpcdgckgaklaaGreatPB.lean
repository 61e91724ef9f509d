/-
  Lemmas for the last text of this claim (part 2 of 20).
-/
import Derived.ArgAppend
import Derived.BigQuiet
import Derived.BigRegion
import Derived.ChangeOld
import Derived.Deep.RegionWith
import Derived.DeepKeys4
import Derived.JoinedCond
import Derived.LaidMore
import Derived.Laws.CopyOwn
import Derived.Laws.Externs
import Derived.Laws.IdiomStrings
import Derived.Laws.Tables
import Derived.Lib.AppendStr
import Derived.Lib.AppendZerosOnto
import Derived.Lib.Mul64
import Derived.Lib.SlBytesConst
import Derived.LoopN
import Derived.Maps.OwnSet
import Derived.OpenShut
import Derived.OrdersHeld
import Derived.ProofKit
import Derived.Shelf.Spec.BitsCarry
import Derived.ShutString
import Derived.Test.YtdkpcdgckgaklaaGreatProg
import Derived.Test.YtdkpcdgckgaklaaGreatRows
import Derived.WalkKit
import Derived.WalkLawsBesides
import Derived.WalkSpells
import Derived.Test.YtdkpcdgckgaklaaGreatPA
open Array renaming getElem?_eq_none → QDS
open Bool renaming eq_iff_iff → QDb
open Int renaming natCast_mul → QEo, toNat_natCast → QEx
open List renaming replicate → QCn, getElem?_cons_succ → QCo, getElem?_cons_zero → QCp, cons_append → QCr, nil_append → QCs, getD_eq_getElem?_getD → QCu, getElem?_eq_getElem → QCv, map_toArray → QCA, length_append → QCB, map_nil → QCC, getElem?_append_left → QCD, getElem?_append_right → QCF, getElem?_map → QCH, getElem?_eq_some_iff → QCK, length_take → QCP, map_cons → QCR, length_drop → QCS, take_succ_eq_append_getElem → QCY, eq_nil_of_length_eq_zero → QC0, take_append_drop → QC3, range → QC5, mem_map → QC7, length_cons → QDj, getElem?_take → QDt, all_cons → QDA, map_take → QDB, getElem?_drop → QDU, ext_getElem → QEt, map_set → QEy, map_drop → QEF
open Nat renaming le_refl → QCx, zero_add → QCI, lt_of_lt_of_le → QCM, le_trans → QC4, lt_or_ge → QDq, mul_comm → QDK, le_mul_of_pos_right → QD3, eq_zero_or_pos → QD6, mul_one → QEi
open Option renaming toList_some → QCq, map_some → QD7
open UInt32 renaming toNat_inj → QEs
open UInt64 renaming toNat_inj → QD2
open UInt8 renaming toNat_inj → QDl
set_option linter.all false
namespace Go.Proofs.YtdkpcdgckgaklaaGreat
open Go.RowKit
def Rd (w:World) (A:Option Addr) (n:Nat) (vs:List Value):Prop:=
 vs.length=n∧(0<n→∃b o,A=some ⟨b,o,none⟩∧b<w.heap.size∧∀j u,vs[j]?=some u→w.cell? ⟨b,o+j,none⟩=some u)
theorem Rd.later {w w':World} {A:Option Addr} {n:Nat} {vs:List Value} (h:Rd w A n vs) (hl:Later w w'):Rd w' A n vs:=by
 refine⟨h.1,fun hn=>?_⟩
 obtain⟨b,o,hA,hb,hc⟩:=h.2 hn
 have hB:=hl.below
 exact⟨b,o,hA,QCM hb hB.size,fun j u hu=>(hB.cell (p:=⟨b,o+j,none⟩) hb).trans (hc j u hu)⟩
theorem Rd.grow {w:World} {A:Option Addr} {n:Nat} {vs:List Value} (h:Rd w A n vs) (x:More):Rd (grow w x) A n vs:=h.later ⟨x,rfl⟩
theorem Rd.at_ {w:World} {A:Option Addr} {n:Nat} {vs:List Value} (h:Rd w A n vs) (hn:0<n):
 ∃b o,A=some ⟨b,o,none⟩∧b<w.heap.size∧∀j (hj:j<n),w.cell? ⟨b,o+j,none⟩=some (vs[j]'(by rw[h.1];exact hj)):=by
 obtain⟨b,o,hA,hb,hc⟩:=h.2 hn
 exact⟨b,o,hA,hb,fun j hj=>hc j _ (QCv _)⟩
def RdB (w:World) (A:Option Addr) (n:Nat) (bs:List UInt8):Prop:=Rd w A n (bs.map W8)
theorem RdB.later {w w':World} {A:Option Addr} {n:Nat} {bs:List UInt8} (h:RdB w A n bs) (hl:Later w w'):RdB w' A n bs:=Rd.later h hl
theorem RdB.len {w:World} {A:Option Addr} {n:Nat} {bs:List UInt8} (h:RdB w A n bs):bs.length=n:=by simpa using h.1
theorem RdB.at_ {w:World} {A:Option Addr} {n:Nat} {bs:List UInt8} (h:RdB w A n bs) (hn:0<n):
 ∃b o,A=some ⟨b,o,none⟩∧b<w.heap.size∧∀j,j<n→w.cell? ⟨b,o+j,none⟩=some (W8 (bs.getD j 0)):=by
 obtain⟨b,o,hA,hb,hc⟩:=h.2 hn
 refine⟨b,o,hA,hb,fun j hj=>hc j _ ?_⟩
 have hl:=h.len
 rw[QCH,QCv (by omega)]
 simp[show j<bs.length by omega]
def Blk (w:World) (g:Nat) (t:TypeId) (l:List Value):Prop:=w.heap[g]?=some (.cells l.toArray t (0,0))
section
variable {w w':World} {g:Nat} {t:TypeId} {l:List Value}
theorem Blk.lt (h:Blk w g t l):g<w.heap.size:=by
 rcases QDq g w.heap.size with hlt|hge
 ·exact hlt
 ·unfold Blk at h
  rw[QDS hge]at h
  cases h
theorem Blk.cell (h:Blk w g t l) (i:Nat):w.cell? ⟨g,i,none⟩=l[i]?:=by
 rw[cell_of_row w g i l.toArray t (0,0) h]
 simp
theorem Blk.cellD (h:Blk w g t l) (i:Nat) {u:Value} (hi:l[i]?=some u):w.cell? ⟨g,i,none⟩=some u:=(h.cell i).trans hi
theorem Blk.frozen (h:Blk w g t l) (i:Nat):w.frozen? ⟨g,i,none⟩=false:=by
 unfold Blk at h
 simp[World.frozen?,h]
theorem Blk.later (h:Blk w g t l) (hl:Later w w'):Blk w' g t l:=(hl.below.block g h.lt).trans h
theorem Blk.set_ (h:Blk w g t l) (i:Nat) (u:Value):Blk (w.setCell ⟨g,i,none⟩ u) g t (l.set i u):=by
 unfold Blk at h ⊢
 simp[World.setCell,Array.getElem?_modify,h]
theorem Blk.far (h:Blk w g t l) {p:Addr} (hp:g≠p.block) (u:Value):Blk (w.setCell p u) g t l:=(Below.heap_setCell w p u g hp).trans h
theorem Blk.new (w:World) (t:TypeId) (l:List Value):Blk (w.alloc (.cells l.toArray t)) w.heap.size t l:=heap_alloc_new w _
theorem Blk.new' {n:Nat} (w:World) (t:TypeId) (l:List Value) (h:w.heap.size=n):Blk (w.alloc (.cells l.toArray t)) n t l:=h ▸ Blk.new w t l
theorem Blk.drew (h:Blk w g t l):Blk w.drew g t l:=h
theorem Blk.ne_type {g':Nat} {t':TypeId} {l':List Value} (h:Blk w g t l) (h':Blk w g' t' l') (hne:t≠t'):g≠g':=by
 rintro rfl
 unfold Blk at h h'
 rw[h]at h'
 injection h' with h'
 injection h' with _ ht
 exact hne ht
end
theorem Qaa (w:World) (o:Obj):Later w (w.alloc o):=.of_below ((Below.refl _ _).alloc (QCx _) o)
theorem Qab (w:World):Later w w.drew:=.of_below (Below.refl _ _).drew
theorem Later.size {w w':World} (h:Later w w'):w.heap.size≤w'.heap.size:=h.below.size
theorem Later.setCell {w w':World} (h:Later w w') {p:Addr} (hp:w.heap.size≤p.block) (u:Value):Later w (w'.setCell p u):=.of_below (h.below.setCell hp u)
theorem Later.alloc {w w':World} (h:Later w w') (o:Obj):Later w (w'.alloc o):=h.trans (Qaa w' o)
theorem Later.grow {w w':World} (h:Later w w') (x:More):Later w (grow w' x):=h.trans ⟨x,rfl⟩
@[go_sem] theorem Qzw (w:World) (x:More):(grow w x).drew=grow w ⟨x.blocks,x.drawn+1⟩:=rfl
theorem Later.drewN {a b:World} (h:Later a b) (n:Nat):Later a (b.drewN n):=h.trans (.of_below ⟨rfl,rfl,rfl,QCx _,fun _ _=>rfl⟩)
abbrev Only (g:Nat) (w w':World):Prop:=w.grownBy w' (some g)
theorem Blk.only {w w':World} {g:Nat} {t:TypeId} {l:List Value} {k:Nat} (h:Blk w g t l) (ho:Only k w w') (hne:g≠k):Blk w' g t l:=
 (ho.block g h.lt (fun e=>hne (by injection e))).trans h
theorem Later.only {w0 w w':World} {k:Nat} (h:Later w0 w) (ho:Only k w w') (hk:w0.heap.size≤k):Later w0 w':=
 .of_below (h.below.grown ho h.size (fun _ e=>by injection e with e;omega))
theorem Rd.only {w w':World} {A:Option Addr} {n:Nat} {vs:List Value} {k:Nat} (h:Rd w A n vs) (ho:Only k w w') (hne:∀b o,A=some ⟨b,o,none⟩→b≠k):Rd w' A n vs:=by
 refine⟨h.1,fun hn=>?_⟩
 obtain⟨b,o,hA,hb,hc⟩:=h.2 hn
 exact⟨b,o,hA,QCM hb ho.size,fun j u hu=>(World.cell?_of_block (a:=⟨b,o+j,none⟩) (ho.block b hb (fun e=>hne b o hA (by injection e)))).trans (hc j u hu)⟩
theorem QaL (w:World) (g i:Nat) (u:Value):Only g w (w.setCell ⟨g,i,none⟩ u):=
 ⟨rfl,rfl,rfl,by simp[World.setCell],fun k _ hne=>Below.heap_setCell w ⟨g,i,none⟩ u k (fun e=>hne (by rw[e]))⟩
theorem Qh5 (w:World) (g:Nat) (cs:Array Value):Only g w (w.setRow g cs):=
 ⟨rfl,rfl,rfl,by simp[World.setRow],fun k _ hne=>setRow_other w g k cs (fun e=>hne (by rw[e]))⟩
theorem Only.trans {g:Nat} {a b c:World} (h:Only g a b) (k:Only g b c):Only g a c:=
 ⟨k.os.trans h.os,k.tape.trans h.tape,k.output.trans h.output,QC4 h.size k.size,fun i hi hn=>(k.block i (QCM hi h.size) hn).trans (h.block i hi hn)⟩
theorem Only.later {g:Nat} {a b c:World} (h:Only g a b) (k:Later b c):Only g a c:=
 ⟨k.below.os.trans h.os,k.below.tape.trans h.tape,k.below.output.trans h.output,QC4 h.size k.size,fun i hi hn=>(k.below.block i (QCM hi h.size)).trans (h.block i hi hn)⟩
theorem Later.thenOnly {g:Nat} {a b c:World} (h:Later a b) (k:Only g b c):Only g a c:=
 ⟨k.os.trans h.below.os,k.tape.trans h.below.tape,k.output.trans h.below.output,QC4 h.size k.size,fun i hi hn=>(k.block i (QCM hi h.size) hn).trans (h.below.block i hi)⟩
theorem Later.onlyAny {a b:World} (h:Later a b) (g:Nat):Only g a b:=⟨h.below.os,h.below.tape,h.below.output,h.size,fun i hi _=>h.below.block i hi⟩
def Qau (l:List Value) (o:Nat) (vs:List Value):List Value:=l.take o++vs++l.drop (o+vs.length)
theorem Qbr (l:List Value) (o:Nat) (vs:List Value) (h:o+vs.length≤l.length):(Qau l o vs).length=l.length:=by
 simp[Qau]
 omega
theorem Qao (l vs:List Value) (h:vs.length=l.length):Qau l 0 vs=vs:=by
 simp[Qau,h]
section
variable {P:Program} {ops:Array Oper} {rest:List Oper} {o:Oper} {a:Act} {w:World} {Q:Exit→Act→World→Prop}
def QbH:TypeDesc→Bool
 | .struct _| .array _ _=>true
 | _=>false
theorem Qdl (g o j:Nat):(⟨g,o,none⟩:Addr).add j=⟨g,o+j,none⟩:=by
 unfold Addr.add
 split
 ·simp_all
 ·rfl
theorem Qbi (w:World) (g off:Nat) (ty:TypeId) (vs:List Value) (d:TypeDesc) (hc:∀j v,vs[j]?=some v→w.cell? ⟨g,off+j,none⟩=some v)
 (hu:P.underlying ty=some d) (hd:QbH d=true) (hi:(P.info? ty).map (·.size)=some vs.length):(loadVar ty ⟨g,off,none⟩).run P w= .ok (.agg vs.toArray) w:=by
 have hl:(loadCells ⟨g,off,none⟩ vs.length).run P w= .ok vs.toArray w:=
  run_loadCells_list (P:=P) w ⟨g,off,none⟩ vs (fun j v hv=>by rw[Qdl];exact hc j v hv)
 cases hq:P.info? ty with
 | none=>simp[hq]at hi
 | some i=>
   have hs:i.size=vs.length:=by simpa [hq] using hi
   have hagg:(isAgg ty).run P w= .ok true w:=by
    unfold isAgg
    rw[Sem.run_bind,run_underlying hu w]
    cases d<;>first|(simp;done)|(cases hd)
   simp[loadVar,Sem.run_bind,hagg,sizeOf,typeInfo,hq,hs,hl]
theorem Qaz (hgd:o.guard=none) (ty:TypeId) (x:Operand) (ho:o.op= .load ty x) (g off:Nat) (vs:List Value) (hc:∀j v,vs[j]?=some v→w.cell? ⟨g,off+j,none⟩=some v)
 (hx:a.eval x= .pointer (some ⟨g,off,none⟩)) (d:TypeDesc) (hu:P.underlying ty=some d) (hd:QbH d=true) (hi:(P.info? ty).map (·.size)=some vs.length)
 (h:wpList P ops Q rest (a.put o.dst (.agg vs.toArray)) w):wpList P ops Q (o :: rest) a w:=
 wpList_plain hgd fun K hK=>by
  unfold Oper.wp execOp
  simp only[ho,hx,Instr.loadAt,Instr.sureAddr,Sem.run_bind,Sem.run_pure,Result.andThen_ok,Qbi w g off ty vs d hc hu hd hi]
  exact hK _ _ h
theorem Qaq (hgd:o.guard=none) (t:TypeId) (parts:Array (Nat×Operand)) (ho:o.op= .build t parts) (vs:List Value) (hb:P.built t (parts.map fun (i,x)=>(i,a.eval x)).toList=some vs.toArray)
 (h:wpList P ops Q rest (a.put o.dst (.agg vs.toArray)) w):wpList P ops Q (o :: rest) a w:=
 wpList_plain hgd fun K hK=>wp_build t parts ho (by rw[hb];rfl) (by rw[hb];exact hK _ _ h)
theorem Qbz (hgd:o.guard=none) (hd:o.dst=none) (ty:TypeId) (x y:Operand) (ho:o.op= .store ty x y) (ad:Addr) (hx:a.eval x= .pointer (some ad)) (h1:(a.eval y).oneCell'=true)
 (hi:(P.info? ty).map (·.size)=some 1) (hc:(w.cell? ad).isSome=true) (hf:w.frozen? ad=false) (h:∀v,a.eval y=v→wpList P ops Q rest a (w.setCell ad v)):wpList P ops Q (o :: rest) a w:=
 wpList_plain hgd fun K hK=>by
  have hput:a.put o.dst undef=a:=by rw[hd];rfl
  obtain⟨u,hc⟩:=Option.isSome_iff_exists.1 hc
  generalize hy:a.eval y=v at h1
  have h:=h v hy
  rw[←hput]at h
  cases hq:P.info? ty with
  | none=>simp[hq]at hi
  | some i=>
    have hs:i.size=1:=by simpa [hq] using hi
    have hcs:v.cells= #[v]:=by cases v<;>first|rfl|(cases h1)
    have hst:(storeVar ty ad v).run P w= .ok () (w.setCell ad v):=by
     have hs1:(store ad v).run P w= .ok () (w.setCell ad v):=by
      rw[run_store P w ad v _ h1]
      simp[hc,hf]
     have ha:ad.add 0=ad:=by simp[Addr.add]
     simp[storeVar,sizeOf,typeInfo,hq,hcs,hs,storeCells,ha,hs1]
    unfold Oper.wp execOp
    simp only[ho,hx,hy,Instr.storeAt,Instr.sureAddr,Sem.run_bind,Sem.run_pure,Result.andThen_ok,hst]
    exact hK _ _ h
theorem Qac (hgd:o.guard=none) (hd:o.dst=none) (ty:TypeId) (x y:Operand) (ho:o.op= .store ty x y) (g i:Nat) (t:TypeId) (l:List Value) (hg:Blk w g t l) (hx:a.eval x= .pointer (some ⟨g,i,none⟩)) (hlt:i<l.length)
 (h1:(a.eval y).oneCell'=true) (hi:(P.info? ty).map (·.size)=some 1) (h:∀v w',a.eval y=v→Blk w' g t (l.set i v)→Only g w w'→wpList P ops Q rest a w'):wpList P ops Q (o :: rest) a w:=
 Qbz hgd hd ty x y ho ⟨g,i,none⟩ hx h1 hi (by rw[hg.cell,QCv hlt];rfl) (hg.frozen i) fun v hv=>h v _ hv (hg.set_ i v) (QaL w g i v)
theorem Qaj (hgd:o.guard=none) (hd:o.dst=none) (ty:TypeId) (x y:Operand) (ho:o.op= .store ty x y) (g off:Nat) (t:TypeId) (l vs:List Value) (hg:Blk w g t l)
 (hx:a.eval x= .pointer (some ⟨g,off,none⟩)) (hy:a.eval y= .agg vs.toArray) (hi:(P.info? ty).map (·.size)=some vs.length) (hfit:off+vs.length≤l.length) (h1:∀v∈vs,v.oneCell'=true)
 (h:∀w',Blk w' g t (Qau l off vs)→Only g w w'→wpList P ops Q rest a w'):wpList P ops Q (o :: rest) a w:=
 wpList_plain hgd fun K hK=>by
  have hput:a.put o.dst undef=a:=by rw[hd];rfl
  rw[←hput]at h
  have hr:=run_storeCells_at (P:=P) g off t vs 0 l.toArray w hg (by simpa using hfit) h1
  cases hq:P.info? ty with
  | none=>simp[hq]at hi
  | some i=>
    have hs:i.size=vs.length:=by simpa [hq] using hi
    have hst:(storeVar ty ⟨g,off,none⟩ (.agg vs.toArray)).run P w= .ok () (w.setRow g (Qau l off vs).toArray):=by
     have e:(storeVar ty ⟨g,off,none⟩ (.agg vs.toArray)).run P w=(storeCells ⟨g,off,none⟩ vs 0).run P w:=by
      simp[storeVar,sizeOf,typeInfo,hq,Value.cells,hs]
     rw[e,hr]
     simp[Qau]
    unfold Oper.wp execOp
    simp only[ho,hx,hy,Instr.storeAt,Instr.sureAddr,Sem.run_bind,Sem.run_pure,Result.andThen_ok,hst]
    exact hK _ _ (h _ (setRow_heap w g l.toArray _ t _ hg) (Qh5 w g _))
end
theorem QeH {P:Program} {t e:TypeId} {N:Nat} (ht:P.underlying t=some (.array N e)) (hs:(P.info? e).map (·.size)=some 1) {d:TypeDesc} (he:P.underlying e=some d) (hd:QbH d=false) (l:List Value) (k:IntKind) (i:Nat) (v:Value)
 (hN:i<N) (hv:l[i]?=some v) (w:World):(Instr.index t (.agg l.toArray) (.int k (i:Int))).run P w= .ok v w:=by
 have hagg:(isAgg e).run P w= .ok false w:=by
  unfold isAgg
  rw[Sem.run_bind,run_underlying he w]
  cases d<;>first|(simp;done)|(cases hd)
 cases hq:P.info? e with
 | none=>simp[hq]at hs
 | some inf=>
   have hsz:inf.size=1:=by simpa [hq] using hs
   have hlt:(i:Int)<N:=by omega
   simp[Instr.index,run_underlying ht,asIntOf,sizeOf,typeInfo,hq,hsz,part,Sem.run_bind,hagg,hv]
   intro hc
   omega
theorem QaE (l:List UInt8):∀v∈l.map W8,v.oneCell'=true:=by
 intro v hv
 obtain⟨x,_,rfl⟩:=QC7.1 hv
 rfl
theorem Qe9 (l:List UInt32):∀v∈l.map W32,v.oneCell'=true:=by
 intro v hv
 obtain⟨x,_,rfl⟩:=QC7.1 hv
 rfl
theorem QaF {P:Program} {fn:Func} {p:Tmp} {ty:TypeId} (h:fn.results= #[.cell p ty]) (tmps:Array Value) (w:World) (g:Nat) (t:TypeId) (l:List Value) (d:TypeDesc)
 (hg:Blk w g t l) (hp:tmps.getD p undef= .pointer (some ⟨g,0,none⟩)) (hu:P.underlying ty=some d) (hd:QbH d=true) (hi:(P.info? ty).map (·.size)=some l.length):
 (results fn tmps).run P w= .ok (.agg l.toArray) w:=
 results_cell_row h tmps w g t l.toArray (0,0) d hp hg hu (by cases d<;>first|rfl|cases hd) (by simpa using hi)
theorem Qae {P:Program} {fn:Func} {p u:Tmp} {ty:TypeId} (h:fn.results= #[.cell p ty,.tmp u]) (tmps:Array Value) (w:World) (g:Nat) (t:TypeId) (l:List Value) (d:TypeDesc)
 (hg:Blk w g t l) (hp:tmps.getD p undef= .pointer (some ⟨g,0,none⟩)) (hu:P.underlying ty=some d) (hd:QbH d=true) (hi:(P.info? ty).map (·.size)=some l.length):
 (results fn tmps).run P w= .ok (.tuple #[.agg l.toArray,tmps.getD u undef]) w:=by
 rw[results_cell_tmp h,hp]
 have:=Qbi (P:=P) w g 0 ty l d (fun j v hv=>by rw[QCI];exact hg.cellD j hv) hu hd hi
 simp[asAddr,this]
theorem QfV {w:World} {base:Nat} {e:TypeId} {A:Option Addr} {n c:Nat} {vs:List Value} (h:w.ownsRow base e 1 (.slice A n c) n vs):Rd w A n vs:=by
 refine⟨by simpa using h.1,fun hn=>?_⟩
 rcases h.2 with ⟨_,h0⟩|⟨g,cap,cur,hv,hb,hh,hnc,hm,hs,ht⟩
 ·omega
 ·simp only[Value.slice.injEq,true_and]at hv
  obtain⟨rfl,rfl⟩:=hv
  refine⟨g,0,rfl,Blk.lt (l:=cur.toList) (t:=e) (by unfold Blk;simpa using hh),fun j u hu=>?_⟩
  rw[QCI,cell_of_row w g j cur e (0,0) hh]
  rw[←ht,QDt]at hu
  split at hu
  ·simpa using hu
  ·cases hu
theorem Qdj {w w':World} {base:Nat} {e:TypeId} {v:Value} {n:Nat} {vs:List Value} {row:Option Nat} (h:w.ownsRow base e 1 v n vs) (hg:w.grownBy w' row) (hne:∀k,row=some k→k<base∨w.heap.size≤k):w'.ownsRow base e 1 v n vs:=by
 refine h.kept hg ?_
 cases hb:v.ownBlock with
 | none=>exact .inl rfl
 | some b=>
   obtain⟨h1,h2⟩:=h.lt b hb
   refine .inr fun e=>?_
   rcases hne b e.symm with h3|h3<;>omega
theorem Qap {w w':World} {base:Nat} {e:TypeId} {v:Value} {n:Nat} {vs:List Value} (h:w.ownsRow base e 1 v n vs) (hl:Later w w'):w'.ownsRow base e 1 v n vs:=
 h.kept (row:=none) ⟨hl.below.os,hl.below.tape,hl.below.output,hl.size,fun k hk _=>hl.below.block k hk⟩ (by cases v.ownBlock<;>simp)
theorem Qbb {w:World} {base base':Nat} {e:TypeId} {v:Value} {n:Nat} {vs:List Value} (h:w.ownsRow base e 1 v n vs) (hb:base'≤base):w.ownsRow base' e 1 v n vs:=by
 refine⟨h.1,h.2.imp id ?_⟩
 rintro⟨g,cap,cur,h1,h2,h3⟩
 exact⟨g,cap,cur,h1,QC4 hb h2,h3⟩
theorem Qay (w:World) (base:Nat) (e:TypeId):w.ownsRow base e 1 (.slice none 0 0) 0 []:=World.ownsRow_nil w base e 1
theorem Qkj (w:World) (e:TypeId) (l:List Value) (hm:l.length≤140737488355328):(w.alloc (.cells l.toArray e)).ownsRow w.heap.size e 1 (.slice (some ⟨w.heap.size,0,none⟩) l.length l.length) l.length l:=by
 have:=World.ownsRow_lit (e:=e) (size:=1) w l.toArray l.length (QCx _) (by unfold maxLen;omega) (by simp)
 simpa using this
theorem Qck {w:World} {base g:Nat} {e:TypeId} {l:List Value} (h:Blk w g e l) (hb:base≤g) (hm:l.length≤140737488355328):w.ownsRow base e 1 (.slice (some ⟨g,0,none⟩) l.length l.length) l.length l:=
 ⟨by simp,.inr ⟨g,l.length,l.toArray,rfl,hb,h,QCx _,by unfold maxLen;omega,by simp,by simp⟩⟩
theorem Later.grownBy {w0 w w':World} {row:Option Nat} (h:Later w0 w) (hg:w.grownBy w' row) (hr:∀k,row=some k→w0.heap.size≤k):Later w0 w':=.of_below (h.below.grown hg h.size hr)
theorem Qk0 {w:World} {base:Nat} {e:TypeId} {v:Value} {n:Nat} {vs:List Value} (h:w.ownsRow base e 1 v n vs):∃A c,v= .slice A n c:=by
 rcases h.2 with ⟨rfl,rfl⟩|⟨g,cap,cur,rfl,_⟩<;>exact⟨_,_,rfl⟩
section
variable {P:Program} {ops:Array Oper} {rest:List Oper} {o:Oper} {a:Act} {w:World} {Q:Exit→Act→World→Prop}
theorem Qas (hgd:o.guard=none) (s x:Operand) (t:TypeId) (ho:o.op= .call { callee:=.builtin .append,args:= #[s,x],argTypes:= #[t,t] })
 (e:TypeId) (z:Value) (bytes:Nat) (ht:P.underlying t=some (.slice e)) (hinfo:(P.info? e).map (fun i=>(i.zero,i.size,i.bytes))=some (some z,1,bytes)) (hzs:z.cells.size=1)
 (w0:World) (v:Value) (n:Nat) (vs:List Value) (hown:w.ownsRow w0.heap.size e 1 v n vs) (hl:Later w0 w)
 (A:Option Addr) (m c:Nat) (news:List Value) (hr:Rd w A m news) (h1:∀u∈news,u.oneCell'=true) (hs:a.eval s=v) (hx:a.eval x= .slice A m c) (hsz:(n+m)*bytes≤140737488355328) (hby:0<bytes)
 (h:∀A' c' w',w'.ownsRow w0.heap.size e 1 (.slice A' (n+m) c') (n+m) (vs++news)→Later w0 w'→w.grownBy w' v.ownBlock→(A'=none→n+m=0)→wpList P ops Q rest (a.put o.dst (.slice A' (n+m) c')) w'):
 wpList P ops Q (o :: rest) a w:=by
 obtain⟨i,hi,hz,hsize,hbytes⟩:=info_parts hinfo
 have hnm:n+m≤140737488355328:=QC4 (QD3 _ hby) hsz
 have hmax:n+m≤maxLen:=by unfold maxLen;omega
 have hfin:∀v' w',(Builtin.append_ #[t,t] o.type #[v,.slice A m c]).run P w= .ok v' w'→w'.ownsRow w0.heap.size e 1 v' (n+m) (vs++news)→w.grownBy w' v.ownBlock→wpList P ops Q (o :: rest) a w:=by
  intro v' w' hrun hown' hg
  refine wpList_plain hgd fun K hK=>?_
  unfold Oper.wp execOp
  simp only[ho,resolve,invoke,builtin,Sem.run_bind,Sem.run_pure,Result.andThen_ok,QCA,QCR,QCC,hs,hx,hrun]
  have hlat:Later w0 w':=hl.grownBy hg (fun k hk=>(hown.lt k hk).1)
  obtain⟨A',c',rfl⟩:=Qk0 hown'
  refine hK _ _ (h A' c' w' hown' hlat hg fun hA=>?_)
  subst hA
  rcases hown'.2 with ⟨_,h0⟩|⟨g,cap,cur,hv,_⟩
  ·exact h0
  ·cases hv
 cases A with
 | some ad=>
   have hcells:∀j u,news[j]?=some u→w.cell? (ad.add j)=some u:=by
    intro j u hu
    have hj:j<news.length:=(QCK.1 hu).1
    obtain⟨b,off,hA,_,hc⟩:=hr.2 (by have:=hr.1;omega)
    obtain rfl:ad=⟨b,off,none⟩:=by simpa using hA
    rw[Qdl]
    exact hc j u hu
   obtain⟨v',w',hrun,h2,h3,_⟩:=run_append_own (P:=P) w w0.heap.size t o.type e i z 1 bytes ht hi hz hsize hbytes hzs (by omega) v n vs hown ad m c news (by simpa using hr.1) hcells h1 hmax hsz hl.size
   exact hfin v' w' hrun h2 h3
 | none=>
   have hm:m=0:=by
    rcases QD6 m with h0|h0
    ·exact h0
    ·obtain⟨b,off,hA,_⟩:=hr.2 h0
     cases hA
   subst hm
   have hn:news=[]:=QC0 hr.1
   subst hn
   have hrun:(Builtin.append_ #[t,t] o.type #[v,.slice none 0 c]).run P w= .ok v w:=by
    rcases hown.2 with ⟨rfl,rfl⟩|⟨g,cap,cur,rfl,_,_,hnc,_⟩
    ·simp[Builtin.append_,run_underlying ht,sizeOf,typeInfo,hi,Builtin.lenOf,Builtin.firstCells]
    ·simp[Builtin.append_,run_underlying ht,sizeOf,typeInfo,hi,Builtin.lenOf,Builtin.firstCells,hnc,storeCells]
   exact hfin v w hrun (by simpa using hown) (World.grownBy.refl w _)
theorem QaH (hgd:o.guard=none) (l c:Operand) (t:TypeId) (ho:o.op=Op.makeSlice t l c) (e:TypeId) (z:Value) (bytes:Nat) (ht:P.underlying t=some (.slice e))
 (hinfo:(P.info? e).map (fun i=>(i.zero,i.size,i.bytes))=some (some z,1,bytes)) (hz1:z.cells= #[z]) (kl kc:IntKind) (L C:Int) (n:Nat) (hl:a.eval l= .int kl L) (hc:a.eval c= .int kc C) (hL:L=(n:Int)) (hC:C=(n:Int))
 (hby:0<bytes) (hsz:n*bytes≤140737488355328) (h:∀w',Blk w' w.heap.size e (QCn n z)→Later w w'→wpList P ops Q rest (a.put o.dst (.slice (some ⟨w.heap.size,0,none⟩) n n)) w'):
 wpList P ops Q (o :: rest) a w:=by
 obtain⟨i,hi,hz,hsize,hbytes⟩:=info_parts hinfo
 have hn:n≤140737488355328:=QC4 (QD3 _ hby) hsz
 refine wpList_plain hgd fun K hK=>?_
 have hb:((i.bytes:Int)*(n:Int))≤281474976710656:=by
  rw[hbytes,←QEo,QDK]
  omega
 have hr:=run_make (P:=P) w t e i z ht hi hz kl kc n n (by omega) (Int.le_refl _) hb (by omega)
 simp only[QEx,hsize,QEi,hz1]at hr
 subst hL
 subst hC
 unfold Oper.wp
 simp only[execOp,ho,hl,hc,Sem.run_bind,hr,Result.andThen_ok,Sem.run_pure]
 refine hK _ _ (h _ ?_ (Qaa _ _))
 have hm:madeCells #[z] n=(QCn n z).toArray:=by
  apply Array.toList_inj.1
  rw[toList_madeCells_one]
 show Blk (w.alloc (.cells (madeCells #[z] n) e)) _ _ _
 rw[hm]
 exact Blk.new w e _
end
def cutA (A:Option Addr) (k c:Nat):Option Addr:=if c=k then A else A.map (·.add k)
theorem Rd.cut {w:World} {A:Option Addr} {n:Nat} {vs:List Value} (h:Rd w A n vs) {k c:Nat} (hk:k≤n) (hc:n≤c):Rd w (cutA A k c) (n-k) (vs.drop k):=by
 refine⟨by rw[QCS,h.1],fun hn=>?_⟩
 obtain⟨b,o,rfl,hb,hcell⟩:=h.2 (by omega)
 have hck: ¬c=k:=by omega
 refine⟨b,o+k,by simp[cutA,hck,Qdl],hb,fun j u hu=>?_⟩
 have:=hcell (k+j) u (by rw[←hu,QDU])
 rwa [←Nat.add_assoc]at this
theorem Rd.take {w:World} {A:Option Addr} {n:Nat} {vs:List Value} (h:Rd w A n vs) {m:Nat} (hm:m≤n):Rd w A m (vs.take m):=by
 refine⟨by rw[QCP,h.1];omega,fun hp=>?_⟩
 obtain⟨b,o,hA,hb,hcell⟩:=h.2 (by omega)
 refine⟨b,o,hA,hb,fun j u hu=>hcell j u ?_⟩
 rw[QDt]at hu
 split at hu
 ·exact hu
 ·cases hu
theorem RdB.cut {w:World} {A:Option Addr} {n:Nat} {bs:List UInt8} (h:RdB w A n bs) {k c:Nat} (hk:k≤n) (hc:n≤c):RdB w (cutA A k c) (n-k) (bs.drop k):=by
 have:=Rd.cut h hk hc
 rwa [←QEF]at this
theorem RdB.take {w:World} {A:Option Addr} {n:Nat} {bs:List UInt8} (h:RdB w A n bs) {m:Nat} (hm:m≤n):RdB w A m (bs.take m):=by
 have:=Rd.take h hm
 rwa [←QDB]at this
def Off (A:Option Addr) (g:Nat):Prop:=∀ad,A=some ad→ad.block≠g
theorem Qq2 (a:Addr) (n:Nat):(a.add n).block=a.block:=by unfold Addr.add;split<;>rfl
theorem Off.cut {A:Option Addr} {g:Nat} (h:Off A g) (k c:Nat):Off (cutA A k c) g:=by
 intro ad hd
 unfold cutA at hd
 split at hd
 ·exact h ad hd
 ·cases A with
  | none=>cases hd
  | some a=>
    simp only[QD7,Option.some.injEq]at hd
    rw[←hd,Qq2]
    exact h a rfl
theorem Rd.onlyOff {w w':World} {A:Option Addr} {n:Nat} {vs:List Value} {g:Nat} (h:Rd w A n vs) (ho:Only g w w') (hA:Off A g):Rd w' A n vs:=h.only ho fun b o e=>hA ⟨b,o,none⟩ e
theorem Qzz {b o g:Nat} (h:b<g):Off (some ⟨b,o,none⟩) g:=fun ad e=>by cases e;exact Nat.ne_of_lt h
theorem Rd.off {w:World} {A:Option Addr} {n:Nat} {vs:List Value} (h:Rd w A n vs) (hn:0<n) {g:Nat} (hg:w.heap.size≤g):Off A g:=by
 obtain⟨b,o,rfl,hb,_⟩:=h.2 hn
 exact Qzz (by omega)
theorem Qxb {w:World} {base:Nat} {e:TypeId} {A:Option Addr} {n c:Nat} {vs:List Value} (h:w.ownsRow base e 1 (.slice A n c) n vs) {g:Nat} (hg:g<base):Off A g:=by
 intro ad hd
 subst hd
 have:=(h.lt ad.block rfl).1
 omega
theorem Qgz {P:Program} {t e:TypeId} (ht:P.underlying t=some (.slice e)) (hs:(P.info? e).map (·.size)=some 1) (A:Option Addr) (n c:Nat) (kl kh:IntKind) (l h:Int) (h0:0≤l) (h1:l≤h) (h2:h≤c) (W:World):
 (Instr.sliceAt t (.slice A n c) (some (.int kl l)) (some (.int kh h)) none).run P W= .ok (.slice (cutA A l.toNat c) (h.toNat-l.toNat) (c-l.toNat)) W:=by
 have he:P.elem t=e:=by unfold Program.elem;rw[ht]
 have ht':P.underlying t=some (.slice (P.elem t)):=by rw[he];exact ht
 rw[run_sliceAt_slice _ _ _ _ _ _ ht',run_slice_lh _ _ _ _ _ ht' kl kh l h h0 h1 h2,he]
 cases hq:P.info? e with
 | none=>simp[hq]at hs
 | some i=>
   have hsz:i.size=1:=by simpa [hq] using hs
   simp[sizeOf,typeInfo,hq,hsz,sliced,cutA]
theorem Qi8 {P:Program} {t e:TypeId} (ht:P.underlying t=some (.slice e)) (hs:(P.info? e).map (·.size)=some 1) (A:Option Addr) (n c:Nat) (kl:IntKind) (l:Int) (h0:0≤l) (h1:l≤n) (W:World):
 (Instr.sliceAt t (.slice A n c) (some (.int kl l)) none none).run P W= .ok (.slice (cutA A l.toNat c) (n-l.toNat) (c-l.toNat)) W:=by
 have he:P.elem t=e:=by unfold Program.elem;rw[ht]
 have ht':P.underlying t=some (.slice (P.elem t)):=by rw[he];exact ht
 rw[run_sliceAt_slice _ _ _ _ _ _ ht',run_slice_l (ht:=ht') (h0:=h0) (h1:=h1),he]
 cases hq:P.info? e with
 | none=>simp[hq]at hs
 | some i=>
   have hsz:i.size=1:=by simpa [hq] using hs
   simp[sizeOf,typeInfo,hq,hsz,sliced,cutA]
theorem QiX (A:Option Addr) (c:Nat):cutA A 0 c=A:=by
 unfold cutA
 split
 ·rfl
 ·cases A with
  | none=>rfl
  | some a=>simp[Addr.add]
theorem Qlu {P:Program} {t e:TypeId} (ht:P.underlying t=some (.slice e)) (hs:(P.info? e).map (·.size)=some 1) (A:Option Addr) (n c:Nat) (kh:IntKind) (h:Int) (h0:0≤h) (h2:h≤c) (W:World):
 (Instr.sliceAt t (.slice A n c) none (some (.int kh h)) none).run P W= .ok (.slice A h.toNat c) W:=by
 have he:P.elem t=e:=by unfold Program.elem;rw[ht]
 have ht':P.underlying t=some (.slice (P.elem t)):=by rw[he];exact ht
 rw[run_sliceAt_slice _ _ _ _ _ _ ht',run_slice_h (ht:=ht') (h0:=h0) (h2:=h2),he]
 cases hq:P.info? e with
 | none=>simp[hq]at hs
 | some i=>
   have hsz:i.size=1:=by simpa [hq] using hs
   have:=QiX A c
   unfold cutA at this
   simp[sizeOf,typeInfo,hq,hsz,sliced]
   simpa using this
theorem QmA {P:Program} {t e:TypeId} (ht:P.underlying t=some (.slice e)) (hs:(P.info? e).map (·.size)=some 1) (A:Option Addr) (n c:Nat) (kl kh:IntKind) (l h:Nat) (h1:l≤h) (h2:h≤c) (W:World):
 (Instr.sliceAt t (.slice A n c) (some (.int kl (l:Int))) (some (.int kh (h:Int))) none).run P W= .ok (.slice (cutA A l c) (h-l) (c-l)) W:=by
 simpa using Qgz ht hs A n c kl kh l h (by omega) (by omega) (by omega) W
theorem Qls {P:Program} {t e:TypeId} (ht:P.underlying t=some (.slice e)) (hs:(P.info? e).map (·.size)=some 1) (A:Option Addr) (n c:Nat) (kl:IntKind) (l:Nat) (h1:l≤n) (W:World):
 (Instr.sliceAt t (.slice A n c) (some (.int kl (l:Int))) none none).run P W= .ok (.slice (cutA A l c) (n-l) (c-l)) W:=by
 simpa using Qi8 ht hs A n c kl l (by omega) (by omega) W
theorem QpH {P:Program} {t e:TypeId} (ht:P.underlying t=some (.slice e)) (hs:(P.info? e).map (·.size)=some 1) (A:Option Addr) (n c:Nat) (kh:IntKind) (h:Nat) (h2:h≤c) (W:World):
 (Instr.sliceAt t (.slice A n c) none (some (.int kh (h:Int))) none).run P W= .ok (.slice A h c) W:=by
 simpa using Qlu ht hs A n c kh h (by omega) (by omega) W
theorem Qlj {P:Program} {t e:TypeId} {N:Nat} (ht:P.underlying t=some (.array N e)) (hs:(P.info? e).map (·.size)=some 1) (b o:Nat) (kl:IntKind) (l:Nat) (h1:l<N) (W:World):
 (Instr.sliceAt t (.pointer (some ⟨b,o,none⟩)) (some (.int kl (l:Int))) none none).run P W= .ok (.slice (some ⟨b,o+l,none⟩) (N-l) (N-l)) W:=by
 have he:P.elem t=e:=by unfold Program.elem;rw[ht]
 have hn:P.arrayLen t=N:=by unfold Program.arrayLen;rw[ht]
 have ht':P.underlying t=some (.array (P.arrayLen t) (P.elem t)):=by rw[he,hn];exact ht
 rw[run_sliceAt_array_l (ht:=ht') (h0:=by omega) (h1:=by rw[hn];omega),he,hn]
 cases hq:P.info? e with
 | none=>simp[hq]at hs
 | some i=>
   have hsz:i.size=1:=by simpa [hq] using hs
   simp[sizeOf,typeInfo,hq,hsz,slicedAt,show ¬N=l by omega,Qdl]
theorem Qi0 {P:Program} {t e:TypeId} {N:Nat} (ht:P.underlying t=some (.array N e)) (hs:(P.info? e).map (·.size)=some 1) (b o:Nat) (W:World):
 (Instr.sliceAt t (.pointer (some ⟨b,o,none⟩)) none none none).run P W= .ok (.slice (some ⟨b,o,none⟩) N N) W:=by
 have he:P.elem t=e:=by unfold Program.elem;rw[ht]
 have hn:P.arrayLen t=N:=by unfold Program.arrayLen;rw[ht]
 have ht':P.underlying t=some (.array (P.arrayLen t) (P.elem t)):=by rw[he,hn];exact ht
 rw[run_sliceAt_array_all (ht:=ht'),he,hn]
 cases hq:P.info? e with
 | none=>simp[hq]at hs
 | some i=>
   have hsz:i.size=1:=by simpa [hq] using hs
   simp[sizeOf,typeInfo,hq,hsz,slicedAt,Qdl]
section
variable {P:Program} {ops:Array Oper} {rest:List Oper} {o:Oper} {a:Act} {w:World} {Q:Exit→Act→World→Prop}
theorem Qax (hgd:o.guard=none) (d s:Operand) (dT sT:TypeId) (ho:o.op= .call { callee:=.builtin .copy,args:= #[d,s],argTypes:= #[dT,sT] }) (elem:TypeId) (hu:P.underlying dT=some (.slice elem)) (hsz:(P.info? elem).map (·.size)=some 1)
 (g off dLen dCap:Nat) (t:TypeId) (l:List Value) (hg:Blk w g t l) (A:Option Addr) (m c:Nat) (vs:List Value) (hr:Rd w A m vs) (h1:∀v∈vs,v.oneCell'=true)
 (hd:a.eval d= .slice (some ⟨g,off,none⟩) dLen dCap) (hs:a.eval s= .slice A m c) (hfit:off+dLen≤l.length)
 (h:∀w',Blk w' g t (Qau l off (vs.take dLen))→Only g w w'→wpList P ops Q rest (a.put o.dst (.int .i64 ((min m dLen:Nat):Int))) w'):wpList P ops Q (o :: rest) a w:=by
 have hlen:=hr.1
 have hmin:(vs.take dLen).length=Nat.min m dLen:=by rw[QCP,hlen,Nat.min_comm]
 by_cases h0:Nat.min m dLen=0
 ·refine wpList_copy_nothing hgd d s dT sT ho elem hu hsz _ A dLen dCap m c hd hs h0 ?_
  have hnil:vs.take dLen=[]:=QC0 (by rw[hmin,h0])
  have:=h w (by rw[hnil];simpa [Qau] using hg) (World.grownBy.refl w _)
  have e0:min m dLen=0:=h0
  rwa [e0]at this
 ·have hpos:0<m:=by
   rcases QD6 m with e|e
   ·subst e;exact absurd (Nat.zero_min dLen) h0
   ·exact e
  obtain⟨b,off2,rfl,hb,hc⟩:=hr.2 hpos
  refine wpList_copy_own hgd d s dT sT ho elem hu hsz g off dLen dCap ⟨b,off2,none⟩ m c hd hs l.toArray t hg (vs.take dLen) hmin (fun j v hv=>?_) (by rw[hmin];simp;have:Nat.min m dLen≤dLen:=Nat.min_le_right m dLen;omega) (fun v hv=>h1 v (List.mem_of_mem_take hv)) ?_
  ·rw[Qdl]
   rw[QDt]at hv
   split at hv
   ·exact hc j v hv
   ·cases hv
  ·rw[hmin]
   refine h _ ?_ (Qh5 w g _)
   have:=setRow_heap w g l.toArray (l.toArray.toList.take off++(vs.take dLen++l.toArray.toList.drop (off+(Nat.min m dLen)))).toArray t _ hg
   unfold Blk Qau
   rw[hmin]
   simpa using this
end
theorem QbW:(Tryz.prog.info? 5).map (fun i=>(i.zero,i.size,i.bytes))=some (some (.int .u8 0),1,1):=by kernel_rfl
theorem QbR:(Tryz.prog.info? 5).map (·.size)=some 1:=by kernel_rfl
@[go_sem high] theorem cut8 (A:Option Addr) (n c:Nat) (kl kh:IntKind) (l h:Nat) (h1:l≤h) (h2:h≤c) (W:World):
   (Instr.sliceAt 32 (.slice A n c) (some (.int kl (l:Int))) (some (.int kh (h:Int))) none).run Tryz.prog W= .ok (.slice (cutA A l c) (h-l) (c-l)) W:=QmA Tryz.underlying32 QbR A n c kl kh l h h1 h2 W
@[go_sem high] theorem Qiq (A:Option Addr) (n c:Nat) (kl:IntKind) (l:Nat) (h1:l≤n) (W:World):
   (Instr.sliceAt 32 (.slice A n c) (some (.int kl (l:Int))) none none).run Tryz.prog W= .ok (.slice (cutA A l c) (n-l) (c-l)) W:=Qls Tryz.underlying32 QbR A n c kl l h1 W
@[go_sem high] theorem Qnu (A:Option Addr) (n c:Nat) (kh:IntKind) (h:Nat) (h2:h≤c) (W:World):
   (Instr.sliceAt 32 (.slice A n c) none (some (.int kh (h:Int))) none).run Tryz.prog W= .ok (.slice A h c) W:=QpH Tryz.underlying32 QbR A n c kh h h2 W
@[go_sem high] theorem QyD (b o:Nat) (kl:IntKind) (l:Nat) (h1:l<64) (W:World):
   (Instr.sliceAt 270 (.pointer (some ⟨b,o,none⟩)) (some (.int kl (l:Int))) none none).run Tryz.prog W= .ok (.slice (some ⟨b,o+l,none⟩) (64-l) (64-l)) W:=Qlj Tryz.underlying270 QbR b o kl l h1 W
@[go_sem high] theorem Qz3 (b o:Nat) (W:World):
   (Instr.sliceAt 270 (.pointer (some ⟨b,o,none⟩)) none none none).run Tryz.prog W= .ok (.slice (some ⟨b,o,none⟩) 64 64) W:=Qi0 Tryz.underlying270 QbR b o W
@[go_sem high] theorem Qz7 (b o:Nat) (W:World):
   (Instr.sliceAt 79 (.pointer (some ⟨b,o,none⟩)) none none none).run Tryz.prog W= .ok (.slice (some ⟨b,o,none⟩) 32 32) W:=Qi0 Tryz.underlying79 QbR b o W
theorem QkC {b c:Bool} (h:b=c):Ending.returned (.bool b)= .returned (.bool c):=by rw[h]
theorem Qby (l:List UInt8) (i:Nat) (x:UInt8):(l.map W8).set i (W8 x)=(l.set i x).map W8:=by rw[QEy]
set_option maxRecDepth 100000 in
set_option maxHeartbeats 400000 in
theorem Qgs (A B:Option Addr) (n m c d:Nat) (xs ys:List UInt8) (w:World) (hx:RdB w A n xs) (hy:RdB w B m ys) (hn:n≤140737488355328) (hm:m≤140737488355328):
 Calls Tryz.prog 11 #[.slice A n c,.slice B m d] w fun e w'=>e= .returned (.bool (decide (xs=ys)))∧Later w w':=by
 have lx:=hx.len
 have ly:=hy.len
 by_cases hnm:n=m
 ·subst hnm
  have hr:∀b:Bool,(b=true↔xs=ys)→decide (xs=ys)=b:=by
   intro b hb
   cases b
   ·exact decide_eq_false (fun h=>by have:=hb.2 h;cases this)
   ·exact decide_eq_true (hb.1 rfl)
  have HR:=hid hr
  clear hr
  generalize decide (xs=ys)=R at *
  go_enter Tryz.func11,Tryz.ntmps11
  go_wp2
  go_loopw [5] (fun i wr=>∃k:Nat,k≤n∧i= .int .i64 k∧Later w wr∧Hid (∀ j,j<k→xs.getD j 0=ys.getD j 0)) (fun i _=>n-(intOf i).toNat)
  case atStart=>exact⟨0,by omega,rfl,Later.refl w,hid (fun j hj=>absurd hj (by omega))⟩
  case round=>
   obtain⟨k,hk,rfl,hl,he⟩:=hrel
   by_cases hlt:k<n
   ·obtain⟨b1,o1,rfl,hb1,hc1⟩:=hx.at_ (by omega)
    obtain⟨b2,o2,rfl,hb2,hc2⟩:=hy.at_ (by omega)
    have c1:wr.cell? ⟨b1,o1+k,none⟩=some (W8 (xs.getD k 0)):=(hl.below.cell (p:=⟨b1,o1+k,none⟩) hb1).trans (hc1 k hlt)
    have c2:wr.cell? ⟨b2,o2+k,none⟩=some (W8 (ys.getD k 0)):=(hl.below.cell (p:=⟨b2,o2+k,none⟩) hb2).trans (hc2 k hlt)
    clear hc1 hc2 hx hy
    generalize hX:xs.getD k 0=X at *
    generalize hY:ys.getD k 0=Y at *
    have HX:=hid hX
    have HY:=hid hY
    clear hX hY
    go_wp2
    refine Qad [] [0,1,2,3,4,5,6,7,8] [] (by as_aux_lemma=>kernel_rfl) (by as_aux_lemma=>kernel_rfl) (by intro _ _ d _ _ h;cases d<;>exact h) ?_
    simp only[Qai,pick,QCo,QCp,QCq,QCr,QCs]
    repeat (go_big_quiet_step (fail))
    refine wpQuiet_nil ?_
    go_wp2
    ·go_ret
     refine⟨QkC (HR.out false ⟨fun h=>(by cases h),fun h=>?_⟩).symm,hl.drew⟩
     have hne:(X != Y)=true:=by assumption
     rw[←HX.out,←HY.out,h]at hne
     simp at hne
    ·go_roundw
     case rel=>
      have hne:(X != Y)=false:=by assumption
      refine⟨k+1,by omega,by go_num,hl.drew,hid fun j hj=>?_⟩
      by_cases hjk:j=k
      ·subst hjk
       rw[HX.out,HY.out]
       simpa using hne
      ·exact he.out j (by omega)
     case measure=>simp[intOf];omega
   ·go_wp2
    go_ret
    refine⟨QkC (HR.out true ⟨fun _=>?_,fun _=>rfl⟩).symm,hl⟩
    apply QEt (by omega)
    intro j h1 h2
    have:=he.out j (by omega)
    rw[QCu,QCu,QCv h1,QCv h2]at this
    exact this
 ·have hne:((n:Int) != (m:Int))=true:=by simp;omega
  have hf:decide (xs=ys)=false:=decide_eq_false (fun h=>hnm (by rw[←lx,←ly,h]))
  have HF:=hid hf
  clear hf
  generalize decide (xs=ys)=R at *
  go_enter Tryz.func11,Tryz.ntmps11
  go_wp2
  go_ret
  exact⟨QkC HF.out.symm,Later.refl w⟩
theorem QoC {w:World} {base:Nat} {e:TypeId} {v:Value} {n m:Nat} {xs ys:List Value} (h:w.ownsRow base e 1 v n xs) (hn:n=m) (hx:xs=ys):w.ownsRow base e 1 v m ys:=by subst hn;subst hx;exact h
def OwnB (w:World) (base:Nat) (A:Option Addr) (n c:Nat) (bs:List UInt8):Prop:=w.ownsRow base 5 1 (.slice A n c) n (bs.map W8)
theorem OwnB.rd {w:World} {base:Nat} {A:Option Addr} {n c:Nat} {bs:List UInt8} (h:OwnB w base A n c bs):RdB w A n bs:=QfV h
theorem OwnB.later {w w':World} {base:Nat} {A:Option Addr} {n c:Nat} {bs:List UInt8} (h:OwnB w base A n c bs) (hl:Later w w'):OwnB w' base A n c bs:=Qap h hl
theorem OwnB.mono {w:World} {base base':Nat} {A:Option Addr} {n c:Nat} {bs:List UInt8} (h:OwnB w base A n c bs) (hb:base'≤base):OwnB w base' A n c bs:=Qbb h hb
theorem OwnB.len {w:World} {base:Nat} {A:Option Addr} {n c:Nat} {bs:List UInt8} (h:OwnB w base A n c bs):bs.length=n:=h.rd.len
set_option maxHeartbeats 400000 in
theorem Qcf (A:Option Addr) (n c:Nat) (bs:List UInt8) (w:World) (hr:RdB w A n bs) (hn:n≤140737488355328):
 Calls Tryz.prog 32 #[.slice A n c] w fun e w'=>∃A' c',e= .returned (.slice A' n c')∧OwnB w' w.heap.size A' n c' bs∧Later w w':=by
 go_enter Tryz.func32,Tryz.ntmps32
 go_wp2_with (first
  | (refine Qas rfl _ _ _ rfl 5 _ 1 Tryz.underlying32 QbW rfl w _ 0 [] (Qkj w _ [] (by simp)) (Qaa _ _) A n c (bs.map W8) (Rd.later hr (Qaa _ _)) (QaE _) rfl rfl (by omega) (by omega) ?_;intro A' c' w' hown hl _ _))
 go_ret
 exact⟨A',c',rfl,QoC (by rwa [QCI]at hown) rfl (by simp),hl⟩
end Go.Proofs.YtdkpcdgckgaklaaGreat
namespace Go.Proofs.YtdkpcdgckgaklaaGreat
open Go.RowKit
open Go.BigFrame
section
variable {P:Program} {ops:Array Oper} {C:World→Prop} {Q:Act→Prop} {a:Act} {o:Oper} {rest:List Oper}
theorem QaN {K:Act→Prop} (ty:TypeId) (x:Operand) (ho:o.op= .load ty x) (g off:Nat) (vs:List Value) (hc:∀w,C w→∀j v,vs[j]?=some v→w.cell? ⟨g,off+j,none⟩=some v)
 (hx:a.eval x= .pointer (some ⟨g,off,none⟩)) (d:TypeDesc) (hu:P.underlying ty=some d) (hd:QbH d=true) (hi:(P.info? ty).map (·.size)=some vs.length)
 (h:K (a.put o.dst (.agg vs.toArray))):o.quiet P a C K:=
 ⟨.agg vs.toArray,fun w hw=>by
   unfold Oper.quietAt execOp
   simp only[ho,hx,Instr.loadAt,Instr.sureAddr,Sem.run_bind,Sem.run_pure,Result.andThen_ok,Qbi w g off ty vs d (hc w hw) hu hd hi]
   exact⟨rfl,rfl⟩,h⟩
end
section
variable {P:Program} {ops:Array Oper} {rest:List Oper} {o:Oper} {a:Act} {w:World} {Q:Exit→Act→World→Prop}
theorem Qc1 (hgd:o.guard=none) (l c:Operand) (t:TypeId) (ho:o.op=Op.makeSlice t l c) (e:TypeId) (z:Value) (bytes:Nat) (ht:P.underlying t=some (.slice e))
 (hinfo:(P.info? e).map (fun i=>(i.zero,i.size,i.bytes))=some (some z,1,bytes)) (hz1:z.cells= #[z]) (kl kc:IntKind) (L C:Int) (n m:Nat) (hl:a.eval l= .int kl L) (hc:a.eval c= .int kc C) (hL:L=(n:Int)) (hC:C=(m:Int))
 (hnm:n≤m) (hby:0<bytes) (hsz:m*bytes≤140737488355328) (h:∀w',w'.ownsRow w.heap.size e 1 (.slice (some ⟨w.heap.size,0,none⟩) n m) n (QCn n z)→Later w w'→wpList P ops Q rest (a.put o.dst (.slice (some ⟨w.heap.size,0,none⟩) n m)) w'):
 wpList P ops Q (o :: rest) a w:=by
 obtain⟨i,hi,hz,hsize,hbytes⟩:=info_parts hinfo
 have hn:m≤140737488355328:=QC4 (QD3 _ hby) hsz
 refine wpList_plain hgd fun K hK=>?_
 have hb:((i.bytes:Int)*(m:Int))≤281474976710656:=by
  rw[hbytes,←QEo,QDK]
  omega
 have hr:=run_make (P:=P) w t e i z ht hi hz kl kc n m (by omega) (by omega) hb (by omega)
 simp only[QEx,hsize,QEi,hz1]at hr
 subst hL
 subst hC
 unfold Oper.wp
 simp only[execOp,ho,hl,hc,Sem.run_bind,hr,Result.andThen_ok,Sem.run_pure]
 refine hK _ _ (h _ ?_ (Qaa _ _))
 have hm:madeCells #[z] m=(QCn m z).toArray:=by
  apply Array.toList_inj.1
  rw[toList_madeCells_one]
 rw[hm]
 have:=World.ownsRow_lit (e:=e) (size:=1) w (QCn m z).toArray m (QCx _) (by unfold maxLen;omega) (by simp)
 refine⟨by simp,.inr ⟨w.heap.size,m,(QCn m z).toArray,rfl,QCx _,Blk.new w e _,hnm,by unfold maxLen;omega,by simp,?_⟩⟩
 simp[List.take_replicate,hnm]
end
@[go_sem high] theorem QAA (A:Option Addr) (n c:Nat) (kl kh:IntKind) (l h:Int) (h0:0≤l) (h1:l≤h) (h2:h≤c) (W:World):
   (Instr.sliceAt 32 (.slice A n c) (some (.int kl l)) (some (.int kh h)) none).run Tryz.prog W= .ok (.slice (cutA A l.toNat c) (h.toNat-l.toNat) (c-l.toNat)) W:=Qgz Tryz.underlying32 QbR A n c kl kh l h h0 h1 h2 W
theorem Qma {w w':World} {b1 b2:Nat} {e1 e2:TypeId} {v1 v2:Value} {n1 n2:Nat} {x1 x2:List Value} (h1:w.ownsRow b1 e1 1 v1 n1 x1) (h2:w.ownsRow b2 e2 1 v2 n2 x2) (hne:e1≠e2) (hg:w.grownBy w' v2.ownBlock):
 w'.ownsRow b1 e1 1 v1 n1 x1:=by
 refine h1.kept hg ?_
 rcases h1.2 with ⟨rfl,_⟩|⟨g1,c1,cur1,rfl,_,hh1,_⟩
 ·exact .inl rfl
 ·right
  rcases h2.2 with ⟨rfl,_⟩|⟨g2,c2,cur2,rfl,_,hh2,_⟩
  ·simp[Value.ownBlock]
  ·intro hb
   simp only[Value.ownBlock,Option.some.injEq]at hb
   subst hb
   rw[hh1]at hh2
   injection hh2 with hh2
   injection hh2 with _ h
   exact hne h
def OwnParts (w:World) (base:Nat) (A:Option Addr) (n c:Nat) (ps:List (List UInt8)):Prop:=
 ∃vs:List Value,w.ownsRow base 32 1 (.slice A n c) n vs∧vs.length=ps.length∧∀(j:Nat) v p,vs[j]?=some v→ps[j]?=some p→∃A' n' c',v= .slice A' n' c'∧OwnB w base A' n' c' p
theorem OwnParts.later {w w':World} {base:Nat} {A:Option Addr} {n c:Nat} {ps:List (List UInt8)} (h:OwnParts w base A n c ps) (hl:Later w w'):OwnParts w' base A n c ps:=by
 obtain⟨vs,h1,h2,h3⟩:=h
 exact⟨vs,Qap h1 hl,h2,fun j v p hv hp=>by obtain⟨A',n',c',e1,e2⟩:=h3 j v p hv hp;exact⟨A',n',c',e1,e2.later hl⟩⟩
theorem OwnParts.len {w:World} {base:Nat} {A:Option Addr} {n c:Nat} {ps:List (List UInt8)} (h:OwnParts w base A n c ps):ps.length=n:=by
 obtain⟨vs,h1,h2,_⟩:=h
 rw[←h2]
 simpa using h1.1
theorem QgL {α:Type} [BEq α] [LawfulBEq α] (z:α):∀(xs ys:List α),xs.length=ys.length→((QC5 xs.length).all fun i=>xs.getD i z==ys.getD i z)=(xs==ys)
 | [],[],_=>rfl
 | x :: xs,y :: ys,h=>by
   have ih:=QgL z xs ys (by simpa using h)
   rw[QDj,List.range_succ_eq_map,QDA,List.all_map]
   simp only[List.getD_cons_zero,Function.comp_def,List.getD_cons_succ,ih]
   simp[List.cons_beq_cons]
 | [],_ :: _,h=>by simp at h
 | _ :: _,[],h=>by simp at h
section
variable {P:Program} (w:World)
theorem Qbe {α:Type} [BEq α] [LawfulBEq α] (z:α) (f:α→Value) (d:Nat) (t e:TypeId) (n:Nat) (ht:P.underlying t=some (.array n e)) (hs:(P.info? e).map (·.size)=some 1) {d0:TypeDesc} (he:P.underlying e=some d0) (hd:QbH d0=false)
 (heq:∀d x y w,(Op.equalIn (d+1) e (f x) (f y)).run P w= .ok (x==y) w) (xs ys:List α) (hx:xs.length=n) (hy:ys.length=n):
 (Op.equalIn (d+2) t (.agg (xs.map f).toArray) (.agg (ys.map f).toArray)).run P w= .ok (xs==ys) w:=by
 have hsz:∀w,(sizeOf e).run P w= .ok 1 w:=by
  intro w
  cases hq:P.info? e with
  | none=>simp[hq]at hs
  | some inf=>
    have hsz:inf.size=1:=by simpa [hq] using hs
    simp[sizeOf,typeInfo,hq,hsz]
 have hagg:∀w,(isAgg e).run P w= .ok false w:=by
  intro w
  unfold isAgg
  rw[Sem.run_bind,run_underlying he w]
  cases d0<;>first|(simp;done)|(cases hd)
 rw[←QgL z xs ys (hx.trans hy.symm),hx,List.range_eq_range',Op.equalIn]
 simp only[Sem.run_bind,run_underlying ht,Result.andThen_ok,hsz,Std.Legacy.Range.forIn_eq_forIn_range',Std.Legacy.Range.size,Nat.sub_zero,Nat.add_sub_cancel,Nat.div_one]
 have hl:∀i∈List.range' 0 n 1,i<n:=fun i hi=>by simpa using (List.mem_range'_1.1 hi).2
 generalize List.range' 0 n 1=l at hl ⊢
 induction l with
 | nil=>simp
 | cons i l ih=>
   have hi:i<n:=hl i (by simp)
   have px:(part e (xs.map f).toArray (i*1)).run P w= .ok (f (xs.getD i z)) w:=by
    simp[part,Sem.run_bind,hagg,List.getD,QCv (show i<xs.length by omega)]
   have py:(part e (ys.map f).toArray (i*1)).run P w= .ok (f (ys.getD i z)) w:=by
    simp[part,Sem.run_bind,hagg,List.getD,QCv (show i<ys.length by omega)]
   have pe:=heq d (xs.getD i z) (ys.getD i z) w
   simp only[List.forIn_cons,Sem.run_bind,px,py,pe,Result.andThen_ok,QDA]
   cases hb:(xs.getD i z==ys.getD i z)
   ·simp
   ·simp only[Bool.not_true,Bool.false_eq_true,if_false,Sem.run_pure,Result.andThen_ok,Bool.true_and]
    exact ih fun j hj=>hl j (by simp[hj])
theorem QjA (e:TypeId) (k:IntKind) (he:P.underlying e=some (.int k)) (d:Nat) (x y:UInt8) (w:World):(Op.equalIn (d+1) e (W8 x) (W8 y)).run P w= .ok (x==y) w:=by
 rw[W8,W8,run_equalIn_int w d e .u8 k _ _ he]
 congr 1
 rw[QDb]
 simp[←QDl]
 omega
theorem Qtc (e:TypeId) (k:IntKind) (he:P.underlying e=some (.int k)) (d:Nat) (x y:UInt32) (w:World):(Op.equalIn (d+1) e (W32 x) (W32 y)).run P w= .ok (x==y) w:=by
 rw[W32,W32,run_equalIn_int w d e .u32 k _ _ he]
 congr 1
 rw[QDb]
 simp[←QEs]
 omega
theorem Qit (e:TypeId) (k:IntKind) (he:P.underlying e=some (.int k)) (d:Nat) (x y:UInt64) (w:World):(Op.equalIn (d+1) e (W64 x) (W64 y)).run P w= .ok (x==y) w:=by
 rw[W64,W64,run_equalIn_int w d e .u64 k _ _ he]
 congr 1
 rw[QDb]
 simp[←QD2]
 omega
end
theorem QyF:Tryz.prog.eqGuardType Tryz.prog.depth 79=false:=by kernel_rfl
theorem Qh8 (xs ys:List UInt8) (hx:xs.length=32) (hy:ys.length=32) (w:World):(binOp .eql 79 (.agg (xs.map W8).toArray) (.agg (ys.map W8).toArray)).run Tryz.prog w= .ok (.bool (xs==ys)) w:=by
 rw[run_eql_struct,Qbe w 0 W8 9998 79 5 32 Tryz.underlying79 QbR Tryz.underlying5 rfl (QjA _ _ Tryz.underlying5) xs ys hx hy]
 rfl
theorem Qif (xs ys:List UInt8) (hx:xs.length=32) (hy:ys.length=32) (w:World):(binOp .neq 79 (.agg (xs.map W8).toArray) (.agg (ys.map W8).toArray)).run Tryz.prog w= .ok (.bool (xs != ys)) w:=by
 rw[run_neq_struct,Qbe w 0 W8 9998 79 5 32 Tryz.underlying79 QbR Tryz.underlying5 rfl (QjA _ _ Tryz.underlying5) xs ys hx hy]
 rfl
@[go_sem high] theorem Qw6 (op:BinOp) (x y:Operand) (xs ys:Array Value) (w:World):(eqGuard op 79 x y (.agg xs) (.agg ys)).run Tryz.prog w= .ok () w:=run_eqGuard_agg w op _ x y xs ys QyF
attribute [go_sem high] Qh8 Qif
section
variable {P:Program} {ops:Array Oper} {rest:List Oper} {o:Oper} {a:Act} {w:World} {Q:Exit→Act→World→Prop}
theorem QcV (hgd:o.guard=none) (t:TypeId) (x:Operand) (ho:o.op= .convert t t x) (e:TypeId) (ht:P.underlying t=some (.slice e)) (he:P.underlying e=some (.int .u8))
 (w0:World) (C:List Value) (hw:w=w0.alloc (.cells C.toArray e)) (g n c:Nat) (hg:w0.heap.size=g) (hx:a.eval x= .slice (some ⟨g,0,none⟩) n c)
 (h:∀w',Later w0 w'→Rd w' (some ⟨g,0,none⟩) C.length C→g+1=w'.heap.size→wpList P ops Q rest (a.put o.dst (.slice (some ⟨g,0,none⟩) n c)) w'):wpList P ops Q (o :: rest) a w:=
 wpList_plain hgd fun K hK=>by
  subst hg
  subst hw
  have hr:=Lib.run_convert_bytes_const (P:=P) w0 t e C.toArray n c ht he
  unfold Oper.wp execOp
  simp only[ho,hx,Sem.run_bind,hr,Result.andThen_ok,Sem.run_pure]
  refine hK _ _ (h _ (Qaa _ _) ⟨rfl,fun _=>⟨_,_,rfl,by simp,fun j u hu=>?_⟩⟩ (by simp))
  rw[QCI]
  unfold World.cell?
  have hb:(w0.alloc (.cells C.toArray e (C.toArray.size,C.toArray.size+1))).heap[w0.heap.size]?=some (.cells C.toArray e (C.toArray.size,C.toArray.size+1)):=by
   show (w0.heap.push _)[w0.heap.size]?=_
   simp
  rw[hb]
  simpa using hu
end
theorem QkJ (w:World):RdB w none 0 []:=⟨rfl,fun h=>absurd h (by omega)⟩
end Go.Proofs.YtdkpcdgckgaklaaGreat
namespace Go.Proofs.YtdkpcdgckgaklaaGreat
open Go.RowKit
theorem QmI {w:World} {base:Nat} {e:TypeId} {A:Option Addr} {n c:Nat} {vs:List Value} (h:w.ownsRow base e 1 (.slice A n c) n vs):n≤c:=by
 rcases h.2 with ⟨_,h0⟩|⟨g,cap,cur,hv,_,_,hnc,_⟩
 ·omega
 ·cases hv
  exact hnc
theorem OwnB.cap {w:World} {base:Nat} {A:Option Addr} {n c:Nat} {bs:List UInt8} (h:OwnB w base A n c bs):n≤c:=QmI h
def Avoid (bad:Nat→Prop) (A:Option Addr) (n:Nat):Prop:=0<n→∀ad,A=some ad→ ¬bad ad.block
theorem Avoid.off {bad:Nat→Prop} {A:Option Addr} {n:Nat} (h:Avoid bad A n) {g:Nat} (hg:bad g) (hn:0<n):Off A g:=fun ad hd e=>h hn ad hd (e ▸ hg)
def Part (w:World) (bad:Nat→Prop) (v:Value) (p:List UInt8):Prop:=∃A n c,v= .slice A n c∧n≤c∧RdB w A n p∧Avoid bad A n
def Parts (w:World) (bad:Nat→Prop) (A:Option Addr) (n:Nat) (ps:List (List UInt8)):Prop:=
 ∃vs:List Value,Rd w A n vs∧Avoid bad A n∧vs.length=ps.length∧∀(j:Nat) v p,vs[j]?=some v→ps[j]?=some p→Part w bad v p
theorem Part.later {w w':World} {bad:Nat→Prop} {v:Value} {p:List UInt8} (h:Part w bad v p) (hl:Later w w'):Part w' bad v p:=by
 obtain⟨A,n,c,h1,h2,h3,h4⟩:=h
 exact⟨A,n,c,h1,h2,h3.later hl,h4⟩
theorem Rd.onlyAvoid {w w':World} {A:Option Addr} {n:Nat} {vs:List Value} {g:Nat} {bad:Nat→Prop} (h:Rd w A n vs) (hv:Avoid bad A n) (ho:Only g w w') (hg:bad g):Rd w' A n vs:=by
 by_cases hn:0<n
 ·exact h.onlyOff ho (hv.off hg hn)
 ·exact⟨h.1,fun h'=>absurd h' hn⟩
theorem Part.only {w w':World} {bad:Nat→Prop} {v:Value} {p:List UInt8} {g:Nat} (h:Part w bad v p) (ho:Only g w w') (hg:bad g):Part w' bad v p:=by
 obtain⟨A,n,c,h1,h2,h3,h4⟩:=h
 exact⟨A,n,c,h1,h2,Rd.onlyAvoid h3 h4 ho hg,h4⟩
theorem Parts.later {w w':World} {bad:Nat→Prop} {A:Option Addr} {n:Nat} {ps:List (List UInt8)} (h:Parts w bad A n ps) (hl:Later w w'):Parts w' bad A n ps:=by
 obtain⟨vs,h1,h2,h3,h4⟩:=h
 exact⟨vs,h1.later hl,h2,h3,fun j v p hv hp=>(h4 j v p hv hp).later hl⟩
theorem Parts.only {w w':World} {bad:Nat→Prop} {A:Option Addr} {n:Nat} {ps:List (List UInt8)} {g:Nat} (h:Parts w bad A n ps) (ho:Only g w w') (hg:bad g):Parts w' bad A n ps:=by
 obtain⟨vs,h1,h2,h3,h4⟩:=h
 exact⟨vs,h1.onlyAvoid h2 ho hg,h2,h3,fun j v p hv hp=>(h4 j v p hv hp).only ho hg⟩
theorem Avoid.more {w:World} {bad bad':Nat→Prop} {A:Option Addr} {n:Nat} {vs:List Value} (h:Avoid bad A n) (hr:Rd w A n vs) (hb:∀b,bad' b→bad b∨w.heap.size≤b):Avoid bad' A n:=by
 intro hn ad hd hbad
 rcases hb _ hbad with h1|h1
 ·exact h hn ad hd h1
 ·obtain⟨b,o,rfl,hlt,_⟩:=hr.2 hn
  cases hd
  exact absurd hlt (by simpa using h1)
theorem Parts.more {w:World} {bad bad':Nat→Prop} {A:Option Addr} {n:Nat} {ps:List (List UInt8)} (h:Parts w bad A n ps) (hb:∀b,bad' b→bad b∨w.heap.size≤b):Parts w bad' A n ps:=by
 obtain⟨vs,h1,h2,h3,h4⟩:=h
 refine⟨vs,h1,h2.more h1 hb,h3,fun j v p hv hp=>?_⟩
 obtain⟨A',n',c',e1,e2,e3,e4⟩:=h4 j v p hv hp
 exact⟨A',n',c',e1,e2,e3,e4.more e3 hb⟩
theorem Parts.len {w:World} {bad:Nat→Prop} {A:Option Addr} {n:Nat} {ps:List (List UInt8)} (h:Parts w bad A n ps):ps.length=n:=by
 obtain⟨vs,h1,_,h3,_⟩:=h
 rw[←h3,h1.1]
theorem Qer (ps:List (List UInt8)) (k:Nat) (h:k<ps.length):(ps.take (k+1)).flatten=(ps.take k).flatten++ps[k]:=by
 rw[QCY h,List.flatten_append]
 simp
theorem Qc2 (ps:List (List UInt8)) (k:Nat):(ps.take k).flatten.length≤ps.flatten.length:=by
 have:ps.flatten=(ps.take k).flatten++(ps.drop k).flatten:=by rw[←List.flatten_append,QC3]
 rw[this,QCB]
 omega
theorem QoW:(5:TypeId)≠32:=by decide
theorem OwnParts.snoc {w w':World} {base:Nat} {A A' A1:Option Addr} {n c c' n1 c1:Nat} {ps:List (List UInt8)} {p:List UInt8} {us:List Value}
 (h1:w.ownsRow base 32 1 (.slice A n c) n us) (h2:us.length=ps.length)
 (h3:∀(j:Nat) v p,us[j]?=some v→ps[j]?=some p→∃A' n' c',v= .slice A' n' c'∧OwnB w base A' n' c' p) (hp:OwnB w base A1 n1 c1 p) (hg:w.grownBy w' (Value.slice A n c).ownBlock)
 (hown:w'.ownsRow base 32 1 (.slice A' (n+1) c') (n+1) (us++[.slice A1 n1 c1])):OwnParts w' base A' (n+1) c' (ps++[p]):=by
 refine⟨_,hown,by simp[h2],fun j v q hv hq=>?_⟩
 rcases QDq j us.length with hj|hj
 ·rw[QCD hj]at hv
  rw[QCD (by omega)]at hq
  obtain⟨B,m,d,e1,e2⟩:=h3 j v q hv hq
  exact⟨B,m,d,e1,Qma e2 h1 QoW hg⟩
 ·rw[QCF hj]at hv
  rw[QCF (by omega)]at hq
  have hj0:j-us.length=0:=by
   have:=(QCK.1 hv).1
   simp at this
   omega
  rw[hj0]at hv
  rw[←h2,hj0]at hq
  simp only[QCp,Option.some.injEq]at hv hq
  subst hv
  subst hq
  exact⟨_,_,_,rfl,Qma hp h1 QoW hg⟩
theorem Parts.at_ {w:World} {bad:Nat→Prop} {A:Option Addr} {n:Nat} {ps:List (List UInt8)} (h:Parts w bad A n ps) {k:Nat} (hk:k<n):
 ∃b o A' n' c',A=some ⟨b,o,none⟩∧b<w.heap.size∧w.cell? ⟨b,o+k,none⟩=some (.slice A' n' c')∧n'≤c'∧RdB w A' n' (ps.getD k [])∧Avoid bad A' n':=by
 have hl:=h.len
 obtain⟨vs,hr,_,hvl,hparts⟩:=h
 obtain⟨b,o,rfl,hb,hc⟩:=hr.at_ (by omega)
 have hck:=hc k hk
 obtain⟨A',n',c',hv,h2,h3,h4⟩:=hparts k _ _ (QCv (by omega)) (QCv (by omega))
 rw[hv]at hck
 refine⟨b,o,A',n',c',rfl,hb,hck,h2,?_,h4⟩
 rw[QCu,QCv (by omega)]
 exact h3
theorem QfW (ps:List (List UInt8)) (k:Nat) (h:k<ps.length):ps.take (k+1)=ps.take k++[ps.getD k []]:=by
 rw[QCY h,QCu,QCv h]
 rfl
def PartAll (w:World) (bad:Nat→Prop):List Value→List (List UInt8)→Prop
 | [],[]=>True
 | v :: vs,p :: ps=>Part w bad v p∧PartAll w bad vs ps
 | _,_=>False
theorem PartAll.at_ {w:World} {bad:Nat→Prop}:∀ {vs:List Value} {ps:List (List UInt8)},PartAll w bad vs ps→vs.length=ps.length∧∀(j:Nat) v p,vs[j]?=some v→ps[j]?=some p→Part w bad v p
 | [],[],_=>⟨rfl,fun j v p hv=>by simp at hv⟩
 | v :: vs,p :: ps,h=>by
   obtain⟨h1,h2⟩:=h
   obtain⟨h3,h4⟩:=PartAll.at_ h2
   refine⟨by simp[h3],fun j u q hu hq=>?_⟩
   cases j with
   | zero=>
     simp only[QCp,Option.some.injEq]at hu hq
     subst hu
     subst hq
     exact h1
   | succ j=>exact h4 j u q (by simpa using hu) (by simpa using hq)
 | [],_ :: _,h=>h.elim
 | _ :: _,[],h=>h.elim
theorem Qcr (A:Option Addr) (n:Nat):Avoid (fun _=>False) A n:=fun _ _ _ h=>h
theorem Qgy {w:World} {A:Option Addr} {n:Nat} {vs:List Value} {ps:List (List UInt8)} (h:Rd w A n vs) (hp:PartAll w (fun _=>False) vs ps):Parts w (fun _=>False) A n ps:=
 ⟨vs,h,Qcr A n,hp.at_.1,hp.at_.2⟩
theorem QbS {w:World} {A:Option Addr} {n c:Nat} {p:List UInt8} (h:RdB w A n p) (hc:n≤c):Part w (fun _=>False) (.slice A n c) p:=⟨A,n,c,rfl,hc,h,Qcr A n⟩
theorem Blk.rd {w:World} {g:Nat} {t:TypeId} {l:List Value} {n:Nat} (h:Blk w g t l) (hn:l.length=n):Rd w (some ⟨g,0,none⟩) n l:=
 ⟨hn,fun _=>⟨g,0,rfl,h.lt,fun j u hu=>by rw[QCI];exact h.cellD j hu⟩⟩
theorem OwnParts.parts {w:World} {base:Nat} {A:Option Addr} {n c:Nat} {ps:List (List UInt8)} (h:OwnParts w base A n c ps):Parts w (fun _=>False) A n ps:=by
 obtain⟨vs,h1,h2,h3⟩:=h
 exact⟨vs,QfV h1,Qcr A n,h2,fun j v p hv hp=>by obtain⟨A',n',c',e1,e2⟩:=h3 j v p hv hp;exact⟨A',n',c',e1,e2.cap,e2.rd,Qcr _ _⟩⟩
section
variable {P:Program} {ops:Array Oper} {rest:List Oper} {o:Oper} {a:Act} {w:World} {Q:Exit→Act→World→Prop}
theorem Qbg (hw:Region.wanted o (yielded ops a.tmps)=true) (ty:TypeId) (x:Operand) (ho:o.op= .load ty x) (g:Nat) (t:TypeId) (l:List Value) (hb:Blk w g t l) (hx:a.eval x= .pointer (some ⟨g,0,none⟩)) (d:TypeDesc) (hu:P.underlying ty=some d) (hd:QbH d=true) (k:Nat) (hi:(P.info? ty).map (·.size)=some k) (hl:l.length=k)
 (h:wpList P ops Q rest (a.put o.dst (.agg l.toArray)) w):wpList P ops Q (o :: rest) a w:=
 BigFrame.wpList_want hw fun K hK=>by
  unfold Oper.wp
  simp only[execOp,ho,hx,Instr.loadAt,Instr.sureAddr,Sem.run_bind,Sem.run_pure,Result.andThen_ok,Qbi w g 0 ty l d (fun j v hv=>by rw[QCI];exact hb.cellD j hv) hu hd (by rw[hl];exact hi)]
  exact hK _ _ h
theorem Qaf (hgd:o.guard=none) (hd:o.dst=none) (ty:TypeId) (x y:Operand) (ho:o.op= .store ty x y) (g:Nat) (t:TypeId) (l vs:List Value) (hg:Blk w g t l)
 (hx:a.eval x= .pointer (some ⟨g,0,none⟩)) (hy:a.eval y= .agg vs.toArray) (k:Nat) (hi:(P.info? ty).map (·.size)=some k) (hvl:vs.length=k) (hl:l.length=k) (h1:∀v∈vs,v.oneCell'=true)
 (h:∀w',Blk w' g t vs→Only g w w'→wpList P ops Q rest a w'):wpList P ops Q (o :: rest) a w:=
 Qaj hgd hd ty x y ho g 0 t l vs hg hx hy (by rw[hvl];exact hi) (by omega) h1 fun w' hb ho=>h w' (by rwa [Qao _ _ (by omega)]at hb) ho
end
theorem Qcl {p:Nat→Prop} {k:Nat} (h:∀j,j<k→p j) (hk:p k):∀j,j<k+1→p j:=by
 intro j hj
 rcases QDq j k with h1|h1
 ·exact h j h1
 ·obtain rfl:j=k:=by omega
  exact hk
end Go.Proofs.YtdkpcdgckgaklaaGreat
