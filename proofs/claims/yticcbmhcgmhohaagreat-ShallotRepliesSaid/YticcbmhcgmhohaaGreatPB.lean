/-
  Lemmas for the last text of this claim (part 2 of 20).
-/
import Derived.ArgAppend
import Derived.BigQuiet
import Derived.BigRegion
import Derived.ChangeOld
import Derived.Deep.RegionWith
import Derived.DeepKeys4
import Derived.JoinedCond
import Derived.LaidMore
import Derived.Laws.Append
import Derived.Laws.BytesArg
import Derived.Laws.CopyOwn
import Derived.Laws.Externs
import Derived.Laws.IdiomStrings
import Derived.Laws.Tables
import Derived.Lib.AppendStr
import Derived.Lib.AppendZerosOnto
import Derived.Lib.Mul64
import Derived.Lib.SlBytesConst
import Derived.LoopN
import Derived.Maps.OwnSet
import Derived.OpenShut
import Derived.OrdersHeld
import Derived.ProofKit
import Derived.Shelf.Spec.BitsCarry
import Derived.ShutString
import Derived.Test.YticcbmhcgmhohaaGreatProg
import Derived.Test.YticcbmhcgmhohaaGreatRows
import Derived.WalkKit
import Derived.WalkLawsBesides
import Derived.WalkSpells
import Derived.Test.YticcbmhcgmhohaaGreatPA
open Array renaming getElem?_eq_none → QEb
open Bool renaming eq_iff_iff → QDw
open Int renaming natCast_mul → QEp, toNat_natCast → QEv
open List renaming replicate → QCC, getElem?_cons_zero → QCE, length_map → QCF, nil_append → QCH, cons_append → QCI, getElem?_eq_getElem → QCJ, getD_eq_getElem?_getD → QCK, setIfInBounds_toArray → QCL, length_append → QCM, set_cons_zero → QCN, set_cons_succ → QCO, take_of_length_le → QCQ, getElem?_append_right → QCR, length_replicate → QCS, map_toArray → QCT, append_assoc → QCU, getElem?_eq_some_iff → QCV, getElem?_append_left → QCW, getElem?_map → QCY, mem_cons → QCZ, map_nil → QC3, length_take → QC5, length_drop → QC6, map_cons → QC9, take_append_drop → QDa, take_succ_eq_append_getElem → QDd, append_nil → QDf, map_replicate → QDi, drop_left' → QDj, eq_nil_of_length_eq_zero → QDk, take_append_of_le_length → QDo, length_cons → QDp, map_append → QDq, mem_map → QDs, range → QDu, take_left' → QDx, getElem?_drop → QDE, drop_of_length_le → QDM, drop_append_of_le_length → QDN, flatten_cons → QDU, getElem?_eq_none → QDV, all_cons → QDZ, getElem_mem → QD0, drop_drop → QD5, map_take → QD9, drop_eq_nil_of_le → QEc, flatMap_cons → QEi, getElem?_replicate → QEj, getElem?_take → QEm, take_zero → QEw, nodup_cons → QEI, drop_append → QET, map_set → QE3
open Nat renaming le_refl → QCP, lt_of_lt_of_le → QCX, zero_add → QC4, mod_lt → QC8, le_trans → QDm, div_add_mod → QDA, mul_comm → QDD, lt_or_ge → QDJ, le_mul_of_pos_right → QDO, lt_of_le_of_lt → QD6, mul_one → QEq, zero_mul → QEA, add_mul → QEX, sub_zero → QE0
open Option renaming map_some → QEd, map_eq_some_iff → QED
open UInt32 renaming toNat_inj → QE2
open UInt64 renaming toNat_inj → QEz
open UInt8 renaming toNat_inj → QDr
set_option linter.all false
namespace Go.Proofs.YticcbmhcgmhohaaGreat
open Go.RowKit
def Rd (w:World) (A:Option Addr) (n:Nat) (vs:List Value):Prop:=
 vs.length=n∧(0<n→∃b o,A=some ⟨b,o,none⟩∧b<w.heap.size∧∀j u,vs[j]?=some u→w.cell? ⟨b,o+j,none⟩=some u)
theorem Rd.later {w w':World} {A:Option Addr} {n:Nat} {vs:List Value} (h:Rd w A n vs) (hl:Later w w'):Rd w' A n vs:=by
 refine⟨h.1,fun hn=>?_⟩
 obtain⟨b,o,hA,hb,hc⟩:=h.2 hn
 have hB:=hl.below
 exact⟨b,o,hA,QCX hb hB.size,fun j u hu=>(hB.cell (p:=⟨b,o+j,none⟩) hb).trans (hc j u hu)⟩
theorem Rd.grow {w:World} {A:Option Addr} {n:Nat} {vs:List Value} (h:Rd w A n vs) (x:More):Rd (grow w x) A n vs:=h.later ⟨x,rfl⟩
theorem Rd.at_ {w:World} {A:Option Addr} {n:Nat} {vs:List Value} (h:Rd w A n vs) (hn:0<n):
 ∃b o,A=some ⟨b,o,none⟩∧b<w.heap.size∧∀j (hj:j<n),w.cell? ⟨b,o+j,none⟩=some (vs[j]'(by rw[h.1];exact hj)):=by
 obtain⟨b,o,hA,hb,hc⟩:=h.2 hn
 exact⟨b,o,hA,hb,fun j hj=>hc j _ (QCJ _)⟩
def RdB (w:World) (A:Option Addr) (n:Nat) (bs:List UInt8):Prop:=Rd w A n (bs.map W8)
theorem RdB.later {w w':World} {A:Option Addr} {n:Nat} {bs:List UInt8} (h:RdB w A n bs) (hl:Later w w'):RdB w' A n bs:=Rd.later h hl
theorem RdB.len {w:World} {A:Option Addr} {n:Nat} {bs:List UInt8} (h:RdB w A n bs):bs.length=n:=by simpa using h.1
theorem RdB.at_ {w:World} {A:Option Addr} {n:Nat} {bs:List UInt8} (h:RdB w A n bs) (hn:0<n):
 ∃b o,A=some ⟨b,o,none⟩∧b<w.heap.size∧∀j,j<n→w.cell? ⟨b,o+j,none⟩=some (W8 (bs.getD j 0)):=by
 obtain⟨b,o,hA,hb,hc⟩:=h.2 hn
 refine⟨b,o,hA,hb,fun j hj=>hc j _ ?_⟩
 have hl:=h.len
 rw[QCY,QCJ (by omega)]
 simp[show j<bs.length by omega]
def Blk (w:World) (g:Nat) (t:TypeId) (l:List Value):Prop:=w.heap[g]?=some (.cells l.toArray t (0,0))
section
variable {w w':World} {g:Nat} {t:TypeId} {l:List Value}
theorem Blk.lt (h:Blk w g t l):g<w.heap.size:=by
 rcases QDJ g w.heap.size with hlt|hge
 ·exact hlt
 ·unfold Blk at h
  rw[QEb hge]at h
  cases h
theorem Blk.cell (h:Blk w g t l) (i:Nat):w.cell? ⟨g,i,none⟩=l[i]?:=by
 rw[cell_of_row w g i l.toArray t (0,0) h]
 simp
theorem Blk.cellD (h:Blk w g t l) (i:Nat) {u:Value} (hi:l[i]?=some u):w.cell? ⟨g,i,none⟩=some u:=(h.cell i).trans hi
theorem Blk.frozen (h:Blk w g t l) (i:Nat):w.frozen? ⟨g,i,none⟩=false:=by
 unfold Blk at h
 simp[World.frozen?,h]
theorem Blk.later (h:Blk w g t l) (hl:Later w w'):Blk w' g t l:=(hl.below.block g h.lt).trans h
theorem Blk.set_ (h:Blk w g t l) (i:Nat) (u:Value):Blk (w.setCell ⟨g,i,none⟩ u) g t (l.set i u):=by
 unfold Blk at h ⊢
 simp[World.setCell,Array.getElem?_modify,h]
theorem Blk.far (h:Blk w g t l) {p:Addr} (hp:g≠p.block) (u:Value):Blk (w.setCell p u) g t l:=(Below.heap_setCell w p u g hp).trans h
theorem Blk.new (w:World) (t:TypeId) (l:List Value):Blk (w.alloc (.cells l.toArray t)) w.heap.size t l:=heap_alloc_new w _
theorem Blk.new' {n:Nat} (w:World) (t:TypeId) (l:List Value) (h:w.heap.size=n):Blk (w.alloc (.cells l.toArray t)) n t l:=h ▸ Blk.new w t l
theorem Blk.drew (h:Blk w g t l):Blk w.drew g t l:=h
theorem Blk.ne_type {g':Nat} {t':TypeId} {l':List Value} (h:Blk w g t l) (h':Blk w g' t' l') (hne:t≠t'):g≠g':=by
 rintro rfl
 unfold Blk at h h'
 rw[h]at h'
 injection h' with h'
 injection h' with _ ht
 exact hne ht
end
theorem Qaa (w:World) (o:Obj):Later w (w.alloc o):=.of_below ((Below.refl _ _).alloc (QCP _) o)
theorem Qab (w:World):Later w w.drew:=.of_below (Below.refl _ _).drew
theorem Later.size {w w':World} (h:Later w w'):w.heap.size≤w'.heap.size:=h.below.size
theorem Later.setCell {w w':World} (h:Later w w') {p:Addr} (hp:w.heap.size≤p.block) (u:Value):Later w (w'.setCell p u):=.of_below (h.below.setCell hp u)
theorem Later.alloc {w w':World} (h:Later w w') (o:Obj):Later w (w'.alloc o):=h.trans (Qaa w' o)
theorem Later.grow {w w':World} (h:Later w w') (x:More):Later w (grow w' x):=h.trans ⟨x,rfl⟩
@[go_sem] theorem Qy0 (w:World) (x:More):(grow w x).drew=grow w ⟨x.blocks,x.drawn+1⟩:=rfl
theorem Later.drewN {a b:World} (h:Later a b) (n:Nat):Later a (b.drewN n):=h.trans (.of_below ⟨rfl,rfl,rfl,QCP _,fun _ _=>rfl⟩)
abbrev Only (g:Nat) (w w':World):Prop:=w.grownBy w' (some g)
theorem Blk.only {w w':World} {g:Nat} {t:TypeId} {l:List Value} {k:Nat} (h:Blk w g t l) (ho:Only k w w') (hne:g≠k):Blk w' g t l:=
 (ho.block g h.lt (fun e=>hne (by injection e))).trans h
theorem Later.only {w0 w w':World} {k:Nat} (h:Later w0 w) (ho:Only k w w') (hk:w0.heap.size≤k):Later w0 w':=
 .of_below (h.below.grown ho h.size (fun _ e=>by injection e with e;omega))
theorem Rd.only {w w':World} {A:Option Addr} {n:Nat} {vs:List Value} {k:Nat} (h:Rd w A n vs) (ho:Only k w w') (hne:∀b o,A=some ⟨b,o,none⟩→b≠k):Rd w' A n vs:=by
 refine⟨h.1,fun hn=>?_⟩
 obtain⟨b,o,hA,hb,hc⟩:=h.2 hn
 exact⟨b,o,hA,QCX hb ho.size,fun j u hu=>(World.cell?_of_block (a:=⟨b,o+j,none⟩) (ho.block b hb (fun e=>hne b o hA (by injection e)))).trans (hc j u hu)⟩
theorem QaE (w:World) (g i:Nat) (u:Value):Only g w (w.setCell ⟨g,i,none⟩ u):=
 ⟨rfl,rfl,rfl,by simp[World.setCell],fun k _ hne=>Below.heap_setCell w ⟨g,i,none⟩ u k (fun e=>hne (by rw[e]))⟩
theorem QfT (w:World) (g:Nat) (cs:Array Value):Only g w (w.setRow g cs):=
 ⟨rfl,rfl,rfl,by simp[World.setRow],fun k _ hne=>setRow_other w g k cs (fun e=>hne (by rw[e]))⟩
theorem Only.trans {g:Nat} {a b c:World} (h:Only g a b) (k:Only g b c):Only g a c:=
 ⟨k.os.trans h.os,k.tape.trans h.tape,k.output.trans h.output,QDm h.size k.size,fun i hi hn=>(k.block i (QCX hi h.size) hn).trans (h.block i hi hn)⟩
theorem Only.later {g:Nat} {a b c:World} (h:Only g a b) (k:Later b c):Only g a c:=
 ⟨k.below.os.trans h.os,k.below.tape.trans h.tape,k.below.output.trans h.output,QDm h.size k.size,fun i hi hn=>(k.below.block i (QCX hi h.size)).trans (h.block i hi hn)⟩
theorem Later.thenOnly {g:Nat} {a b c:World} (h:Later a b) (k:Only g b c):Only g a c:=
 ⟨k.os.trans h.below.os,k.tape.trans h.below.tape,k.output.trans h.below.output,QDm h.size k.size,fun i hi hn=>(k.block i (QCX hi h.size) hn).trans (h.below.block i hi)⟩
theorem Later.onlyAny {a b:World} (h:Later a b) (g:Nat):Only g a b:=⟨h.below.os,h.below.tape,h.below.output,h.size,fun i hi _=>h.below.block i hi⟩
def Qao (l:List Value) (o:Nat) (vs:List Value):List Value:=l.take o++vs++l.drop (o+vs.length)
theorem QbJ (l:List Value) (o:Nat) (vs:List Value) (h:o+vs.length≤l.length):(Qao l o vs).length=l.length:=by
 simp[Qao]
 omega
theorem Qak (l vs:List Value) (h:vs.length=l.length):Qao l 0 vs=vs:=by
 simp[Qao,h]
section
variable {P:Program} {ops:Array Oper} {rest:List Oper} {o:Oper} {a:Act} {w:World} {Q:Exit→Act→World→Prop}
def QbO:TypeDesc→Bool
 | .struct _| .array _ _=>true
 | _=>false
theorem QcK (g o j:Nat):(⟨g,o,none⟩:Addr).add j=⟨g,o+j,none⟩:=by
 unfold Addr.add
 split
 ·simp_all
 ·rfl
theorem Qbl (w:World) (g off:Nat) (ty:TypeId) (vs:List Value) (d:TypeDesc) (hc:∀j v,vs[j]?=some v→w.cell? ⟨g,off+j,none⟩=some v)
 (hu:P.underlying ty=some d) (hd:QbO d=true) (hi:(P.info? ty).map (·.size)=some vs.length):(loadVar ty ⟨g,off,none⟩).run P w= .ok (.agg vs.toArray) w:=by
 have hl:(loadCells ⟨g,off,none⟩ vs.length).run P w= .ok vs.toArray w:=
  run_loadCells_list (P:=P) w ⟨g,off,none⟩ vs (fun j v hv=>by rw[QcK];exact hc j v hv)
 cases hq:P.info? ty with
 | none=>simp[hq]at hi
 | some i=>
   have hs:i.size=vs.length:=by simpa [hq] using hi
   have hagg:(isAgg ty).run P w= .ok true w:=by
    unfold isAgg
    rw[Sem.run_bind,run_underlying hu w]
    cases d<;>first|(simp;done)|(cases hd)
   simp[loadVar,Sem.run_bind,hagg,sizeOf,typeInfo,hq,hs,hl]
theorem QaD (hgd:o.guard=none) (ty:TypeId) (x:Operand) (ho:o.op= .load ty x) (g off:Nat) (vs:List Value) (hc:∀j v,vs[j]?=some v→w.cell? ⟨g,off+j,none⟩=some v)
 (hx:a.eval x= .pointer (some ⟨g,off,none⟩)) (d:TypeDesc) (hu:P.underlying ty=some d) (hd:QbO d=true) (hi:(P.info? ty).map (·.size)=some vs.length)
 (h:wpList P ops Q rest (a.put o.dst (.agg vs.toArray)) w):wpList P ops Q (o :: rest) a w:=
 wpList_plain hgd fun K hK=>by
  unfold Oper.wp execOp
  simp only[ho,hx,Instr.loadAt,Instr.sureAddr,Sem.run_bind,Sem.run_pure,Result.andThen_ok,Qbl w g off ty vs d hc hu hd hi]
  exact hK _ _ h
theorem Qam (hgd:o.guard=none) (t:TypeId) (parts:Array (Nat×Operand)) (ho:o.op= .build t parts) (vs:List Value) (hb:P.built t (parts.map fun (i,x)=>(i,a.eval x)).toList=some vs.toArray)
 (h:wpList P ops Q rest (a.put o.dst (.agg vs.toArray)) w):wpList P ops Q (o :: rest) a w:=
 wpList_plain hgd fun K hK=>wp_build t parts ho (by rw[hb];rfl) (by rw[hb];exact hK _ _ h)
theorem Qb2 (hgd:o.guard=none) (hd:o.dst=none) (ty:TypeId) (x y:Operand) (ho:o.op= .store ty x y) (ad:Addr) (hx:a.eval x= .pointer (some ad)) (h1:(a.eval y).oneCell'=true)
 (hi:(P.info? ty).map (·.size)=some 1) (hc:(w.cell? ad).isSome=true) (hf:w.frozen? ad=false) (h:∀v,a.eval y=v→wpList P ops Q rest a (w.setCell ad v)):wpList P ops Q (o :: rest) a w:=
 wpList_plain hgd fun K hK=>by
  have hput:a.put o.dst undef=a:=by rw[hd];rfl
  obtain⟨u,hc⟩:=Option.isSome_iff_exists.1 hc
  generalize hy:a.eval y=v at h1
  have h:=h v hy
  rw[←hput]at h
  cases hq:P.info? ty with
  | none=>simp[hq]at hi
  | some i=>
    have hs:i.size=1:=by simpa [hq] using hi
    have hcs:v.cells= #[v]:=by cases v<;>first|rfl|(cases h1)
    have hst:(storeVar ty ad v).run P w= .ok () (w.setCell ad v):=by
     have hs1:(store ad v).run P w= .ok () (w.setCell ad v):=by
      rw[run_store P w ad v _ h1]
      simp[hc,hf]
     have ha:ad.add 0=ad:=by simp[Addr.add]
     simp[storeVar,sizeOf,typeInfo,hq,hcs,hs,storeCells,ha,hs1]
    unfold Oper.wp execOp
    simp only[ho,hx,hy,Instr.storeAt,Instr.sureAddr,Sem.run_bind,Sem.run_pure,Result.andThen_ok,hst]
    exact hK _ _ h
theorem Qad (hgd:o.guard=none) (hd:o.dst=none) (ty:TypeId) (x y:Operand) (ho:o.op= .store ty x y) (g i:Nat) (t:TypeId) (l:List Value) (hg:Blk w g t l) (hx:a.eval x= .pointer (some ⟨g,i,none⟩)) (hlt:i<l.length)
 (h1:(a.eval y).oneCell'=true) (hi:(P.info? ty).map (·.size)=some 1) (h:∀v w',a.eval y=v→Blk w' g t (l.set i v)→Only g w w'→wpList P ops Q rest a w'):wpList P ops Q (o :: rest) a w:=
 Qb2 hgd hd ty x y ho ⟨g,i,none⟩ hx h1 hi (by rw[hg.cell,QCJ hlt];rfl) (hg.frozen i) fun v hv=>h v _ hv (hg.set_ i v) (QaE w g i v)
theorem Qaf (hgd:o.guard=none) (hd:o.dst=none) (ty:TypeId) (x y:Operand) (ho:o.op= .store ty x y) (g off:Nat) (t:TypeId) (l vs:List Value) (hg:Blk w g t l)
 (hx:a.eval x= .pointer (some ⟨g,off,none⟩)) (hy:a.eval y= .agg vs.toArray) (hi:(P.info? ty).map (·.size)=some vs.length) (hfit:off+vs.length≤l.length) (h1:∀v∈vs,v.oneCell'=true)
 (h:∀w',Blk w' g t (Qao l off vs)→Only g w w'→wpList P ops Q rest a w'):wpList P ops Q (o :: rest) a w:=
 wpList_plain hgd fun K hK=>by
  have hput:a.put o.dst undef=a:=by rw[hd];rfl
  rw[←hput]at h
  have hr:=run_storeCells_at (P:=P) g off t vs 0 l.toArray w hg (by simpa using hfit) h1
  cases hq:P.info? ty with
  | none=>simp[hq]at hi
  | some i=>
    have hs:i.size=vs.length:=by simpa [hq] using hi
    have hst:(storeVar ty ⟨g,off,none⟩ (.agg vs.toArray)).run P w= .ok () (w.setRow g (Qao l off vs).toArray):=by
     have e:(storeVar ty ⟨g,off,none⟩ (.agg vs.toArray)).run P w=(storeCells ⟨g,off,none⟩ vs 0).run P w:=by
      simp[storeVar,sizeOf,typeInfo,hq,Value.cells,hs]
     rw[e,hr]
     simp[Qao]
    unfold Oper.wp execOp
    simp only[ho,hx,hy,Instr.storeAt,Instr.sureAddr,Sem.run_bind,Sem.run_pure,Result.andThen_ok,hst]
    exact hK _ _ (h _ (setRow_heap w g l.toArray _ t _ hg) (QfT w g _))
end
theorem QeE {P:Program} {t e:TypeId} {N:Nat} (ht:P.underlying t=some (.array N e)) (hs:(P.info? e).map (·.size)=some 1) {d:TypeDesc} (he:P.underlying e=some d) (hd:QbO d=false) (l:List Value) (k:IntKind) (i:Nat) (v:Value)
 (hN:i<N) (hv:l[i]?=some v) (w:World):(Instr.index t (.agg l.toArray) (.int k (i:Int))).run P w= .ok v w:=by
 have hagg:(isAgg e).run P w= .ok false w:=by
  unfold isAgg
  rw[Sem.run_bind,run_underlying he w]
  cases d<;>first|(simp;done)|(cases hd)
 cases hq:P.info? e with
 | none=>simp[hq]at hs
 | some inf=>
   have hsz:inf.size=1:=by simpa [hq] using hs
   have hlt:(i:Int)<N:=by omega
   simp[Instr.index,run_underlying ht,asIntOf,sizeOf,typeInfo,hq,hsz,part,Sem.run_bind,hagg,hv]
   intro hc
   omega
theorem QaH (l:List UInt8):∀v∈l.map W8,v.oneCell'=true:=by
 intro v hv
 obtain⟨x,_,rfl⟩:=QDs.1 hv
 rfl
theorem QnE (l:List UInt32):∀v∈l.map W32,v.oneCell'=true:=by
 intro v hv
 obtain⟨x,_,rfl⟩:=QDs.1 hv
 rfl
theorem QaR {P:Program} {fn:Func} {p:Tmp} {ty:TypeId} (h:fn.results= #[.cell p ty]) (tmps:Array Value) (w:World) (g:Nat) (t:TypeId) (l:List Value) (d:TypeDesc)
 (hg:Blk w g t l) (hp:tmps.getD p undef= .pointer (some ⟨g,0,none⟩)) (hu:P.underlying ty=some d) (hd:QbO d=true) (hi:(P.info? ty).map (·.size)=some l.length):
 (results fn tmps).run P w= .ok (.agg l.toArray) w:=
 results_cell_row h tmps w g t l.toArray (0,0) d hp hg hu (by cases d<;>first|rfl|cases hd) (by simpa using hi)
theorem Qai {P:Program} {fn:Func} {p u:Tmp} {ty:TypeId} (h:fn.results= #[.cell p ty,.tmp u]) (tmps:Array Value) (w:World) (g:Nat) (t:TypeId) (l:List Value) (d:TypeDesc)
 (hg:Blk w g t l) (hp:tmps.getD p undef= .pointer (some ⟨g,0,none⟩)) (hu:P.underlying ty=some d) (hd:QbO d=true) (hi:(P.info? ty).map (·.size)=some l.length):
 (results fn tmps).run P w= .ok (.tuple #[.agg l.toArray,tmps.getD u undef]) w:=by
 rw[results_cell_tmp h,hp]
 have:=Qbl (P:=P) w g 0 ty l d (fun j v hv=>by rw[QC4];exact hg.cellD j hv) hu hd hi
 simp[asAddr,this]
theorem Qid {w:World} {base:Nat} {e:TypeId} {A:Option Addr} {n c:Nat} {vs:List Value} (h:w.ownsRow base e 1 (.slice A n c) n vs):Rd w A n vs:=by
 refine⟨by simpa using h.1,fun hn=>?_⟩
 rcases h.2 with ⟨_,h0⟩|⟨g,cap,cur,hv,hb,hh,hnc,hm,hs,ht⟩
 ·omega
 ·simp only[Value.slice.injEq,true_and]at hv
  obtain⟨rfl,rfl⟩:=hv
  refine⟨g,0,rfl,Blk.lt (l:=cur.toList) (t:=e) (by unfold Blk;simpa using hh),fun j u hu=>?_⟩
  rw[QC4,cell_of_row w g j cur e (0,0) hh]
  rw[←ht,QEm]at hu
  split at hu
  ·simpa using hu
  ·cases hu
theorem Qa5 {w w':World} {base:Nat} {e:TypeId} {v:Value} {n:Nat} {vs:List Value} (h:w.ownsRow base e 1 v n vs) (hl:Later w w'):w'.ownsRow base e 1 v n vs:=
 h.kept (row:=none) ⟨hl.below.os,hl.below.tape,hl.below.output,hl.size,fun k hk _=>hl.below.block k hk⟩ (by cases v.ownBlock<;>simp)
theorem Qc3 {w:World} {base base':Nat} {e:TypeId} {v:Value} {n:Nat} {vs:List Value} (h:w.ownsRow base e 1 v n vs) (hb:base'≤base):w.ownsRow base' e 1 v n vs:=by
 refine⟨h.1,h.2.imp id ?_⟩
 rintro⟨g,cap,cur,h1,h2,h3⟩
 exact⟨g,cap,cur,h1,QDm hb h2,h3⟩
theorem Qcq (w:World) (base:Nat) (e:TypeId):w.ownsRow base e 1 (.slice none 0 0) 0 []:=World.ownsRow_nil w base e 1
theorem Qre (w:World) (e:TypeId) (l:List Value) (hm:l.length≤140737488355328):(w.alloc (.cells l.toArray e)).ownsRow w.heap.size e 1 (.slice (some ⟨w.heap.size,0,none⟩) l.length l.length) l.length l:=by
 have:=World.ownsRow_lit (e:=e) (size:=1) w l.toArray l.length (QCP _) (by unfold maxLen;omega) (by simp)
 simpa using this
theorem Qdt {w:World} {base g:Nat} {e:TypeId} {l:List Value} (h:Blk w g e l) (hb:base≤g) (hm:l.length≤140737488355328):w.ownsRow base e 1 (.slice (some ⟨g,0,none⟩) l.length l.length) l.length l:=
 ⟨by simp,.inr ⟨g,l.length,l.toArray,rfl,hb,h,QCP _,by unfold maxLen;omega,by simp,by simp⟩⟩
theorem Later.grownBy {w0 w w':World} {row:Option Nat} (h:Later w0 w) (hg:w.grownBy w' row) (hr:∀k,row=some k→w0.heap.size≤k):Later w0 w':=.of_below (h.below.grown hg h.size hr)
theorem QqT {w:World} {base:Nat} {e:TypeId} {v:Value} {n:Nat} {vs:List Value} (h:w.ownsRow base e 1 v n vs):∃A c,v= .slice A n c:=by
 rcases h.2 with ⟨rfl,rfl⟩|⟨g,cap,cur,rfl,_⟩<;>exact⟨_,_,rfl⟩
section
variable {P:Program} {ops:Array Oper} {rest:List Oper} {o:Oper} {a:Act} {w:World} {Q:Exit→Act→World→Prop}
theorem QbD (hgd:o.guard=none) (s x:Operand) (t:TypeId) (ho:o.op= .call { callee:=.builtin .append,args:= #[s,x],argTypes:= #[t,t] })
 (e:TypeId) (z:Value) (bytes:Nat) (ht:P.underlying t=some (.slice e)) (hinfo:(P.info? e).map (fun i=>(i.zero,i.size,i.bytes))=some (some z,1,bytes)) (hzs:z.cells.size=1)
 (w0:World) (v:Value) (n:Nat) (vs:List Value) (hown:w.ownsRow w0.heap.size e 1 v n vs) (hl:Later w0 w)
 (A:Option Addr) (m c:Nat) (news:List Value) (hr:Rd w A m news) (h1:∀u∈news,u.oneCell'=true) (hs:a.eval s=v) (hx:a.eval x= .slice A m c) (hsz:(n+m)*bytes≤140737488355328) (hby:0<bytes)
 (h:∀A' c' w',w'.ownsRow w0.heap.size e 1 (.slice A' (n+m) c') (n+m) (vs++news)→Later w0 w'→w.grownBy w' v.ownBlock→(A'=none→n+m=0)→wpList P ops Q rest (a.put o.dst (.slice A' (n+m) c')) w'):
 wpList P ops Q (o :: rest) a w:=by
 obtain⟨i,hi,hz,hsize,hbytes⟩:=info_parts hinfo
 have hnm:n+m≤140737488355328:=QDm (QDO _ hby) hsz
 have hmax:n+m≤maxLen:=by unfold maxLen;omega
 have hfin:∀v' w',(Builtin.append_ #[t,t] o.type #[v,.slice A m c]).run P w= .ok v' w'→w'.ownsRow w0.heap.size e 1 v' (n+m) (vs++news)→w.grownBy w' v.ownBlock→wpList P ops Q (o :: rest) a w:=by
  intro v' w' hrun hown' hg
  refine wpList_plain hgd fun K hK=>?_
  unfold Oper.wp execOp
  simp only[ho,resolve,invoke,builtin,Sem.run_bind,Sem.run_pure,Result.andThen_ok,QCT,QC9,QC3,hs,hx,hrun]
  have hlat:Later w0 w':=hl.grownBy hg (fun k hk=>(hown.lt k hk).1)
  obtain⟨A',c',rfl⟩:=QqT hown'
  refine hK _ _ (h A' c' w' hown' hlat hg fun hA=>?_)
  subst hA
  rcases hown'.2 with ⟨_,h0⟩|⟨g,cap,cur,hv,_⟩
  ·exact h0
  ·cases hv
 cases A with
 | some ad=>
   have hcells:∀j u,news[j]?=some u→w.cell? (ad.add j)=some u:=by
    intro j u hu
    have hj:j<news.length:=(QCV.1 hu).1
    obtain⟨b,off,hA,_,hc⟩:=hr.2 (by have:=hr.1;omega)
    obtain rfl:ad=⟨b,off,none⟩:=by simpa using hA
    rw[QcK]
    exact hc j u hu
   obtain⟨v',w',hrun,h2,h3,_⟩:=run_append_own (P:=P) w w0.heap.size t o.type e i z 1 bytes ht hi hz hsize hbytes hzs (by omega) v n vs hown ad m c news (by simpa using hr.1) hcells h1 hmax hsz hl.size
   exact hfin v' w' hrun h2 h3
 | none=>
   have hm:m=0:=by
    rcases Nat.eq_zero_or_pos m with h0|h0
    ·exact h0
    ·obtain⟨b,off,hA,_⟩:=hr.2 h0
     cases hA
   subst hm
   have hn:news=[]:=QDk hr.1
   subst hn
   have hrun:(Builtin.append_ #[t,t] o.type #[v,.slice none 0 c]).run P w= .ok v w:=by
    rcases hown.2 with ⟨rfl,rfl⟩|⟨g,cap,cur,rfl,_,_,hnc,_⟩
    ·simp[Builtin.append_,run_underlying ht,sizeOf,typeInfo,hi,Builtin.lenOf,Builtin.firstCells]
    ·simp[Builtin.append_,run_underlying ht,sizeOf,typeInfo,hi,Builtin.lenOf,Builtin.firstCells,hnc,storeCells]
   exact hfin v w hrun (by simpa using hown) (World.grownBy.refl w _)
theorem QaF (hgd:o.guard=none) (l c:Operand) (t:TypeId) (ho:o.op=Op.makeSlice t l c) (e:TypeId) (z:Value) (bytes:Nat) (ht:P.underlying t=some (.slice e))
 (hinfo:(P.info? e).map (fun i=>(i.zero,i.size,i.bytes))=some (some z,1,bytes)) (hz1:z.cells= #[z]) (kl kc:IntKind) (L C:Int) (n:Nat) (hl:a.eval l= .int kl L) (hc:a.eval c= .int kc C) (hL:L=(n:Int)) (hC:C=(n:Int))
 (hby:0<bytes) (hsz:n*bytes≤140737488355328) (h:∀w',Blk w' w.heap.size e (QCC n z)→Later w w'→wpList P ops Q rest (a.put o.dst (.slice (some ⟨w.heap.size,0,none⟩) n n)) w'):
 wpList P ops Q (o :: rest) a w:=by
 obtain⟨i,hi,hz,hsize,hbytes⟩:=info_parts hinfo
 have hn:n≤140737488355328:=QDm (QDO _ hby) hsz
 refine wpList_plain hgd fun K hK=>?_
 have hb:((i.bytes:Int)*(n:Int))≤281474976710656:=by
  rw[hbytes,←QEp,QDD]
  omega
 have hr:=run_make (P:=P) w t e i z ht hi hz kl kc n n (by omega) (Int.le_refl _) hb (by omega)
 simp only[QEv,hsize,QEq,hz1]at hr
 subst hL
 subst hC
 unfold Oper.wp
 simp only[execOp,ho,hl,hc,Sem.run_bind,hr,Result.andThen_ok,Sem.run_pure]
 refine hK _ _ (h _ ?_ (Qaa _ _))
 have hm:madeCells #[z] n=(QCC n z).toArray:=by
  apply Array.toList_inj.1
  rw[toList_madeCells_one]
 show Blk (w.alloc (.cells (madeCells #[z] n) e)) _ _ _
 rw[hm]
 exact Blk.new w e _
end
def cutA (A:Option Addr) (k c:Nat):Option Addr:=if c=k then A else A.map (·.add k)
theorem Rd.cut {w:World} {A:Option Addr} {n:Nat} {vs:List Value} (h:Rd w A n vs) {k c:Nat} (hk:k≤n) (hc:n≤c):Rd w (cutA A k c) (n-k) (vs.drop k):=by
 refine⟨by rw[QC6,h.1],fun hn=>?_⟩
 obtain⟨b,o,rfl,hb,hcell⟩:=h.2 (by omega)
 have hck: ¬c=k:=by omega
 refine⟨b,o+k,by simp[cutA,hck,QcK],hb,fun j u hu=>?_⟩
 have:=hcell (k+j) u (by rw[←hu,QDE])
 rwa [←Nat.add_assoc]at this
theorem Rd.take {w:World} {A:Option Addr} {n:Nat} {vs:List Value} (h:Rd w A n vs) {m:Nat} (hm:m≤n):Rd w A m (vs.take m):=by
 refine⟨by rw[QC5,h.1];omega,fun hp=>?_⟩
 obtain⟨b,o,hA,hb,hcell⟩:=h.2 (by omega)
 refine⟨b,o,hA,hb,fun j u hu=>hcell j u ?_⟩
 rw[QEm]at hu
 split at hu
 ·exact hu
 ·cases hu
theorem RdB.cut {w:World} {A:Option Addr} {n:Nat} {bs:List UInt8} (h:RdB w A n bs) {k c:Nat} (hk:k≤n) (hc:n≤c):RdB w (cutA A k c) (n-k) (bs.drop k):=by
 have:=Rd.cut h hk hc
 rwa [←List.map_drop]at this
theorem RdB.take {w:World} {A:Option Addr} {n:Nat} {bs:List UInt8} (h:RdB w A n bs) {m:Nat} (hm:m≤n):RdB w A m (bs.take m):=by
 have:=Rd.take h hm
 rwa [←QD9]at this
def Off (A:Option Addr) (g:Nat):Prop:=∀ad,A=some ad→ad.block≠g
theorem Qtk (a:Addr) (n:Nat):(a.add n).block=a.block:=by unfold Addr.add;split<;>rfl
theorem Off.cut {A:Option Addr} {g:Nat} (h:Off A g) (k c:Nat):Off (cutA A k c) g:=by
 intro ad hd
 unfold cutA at hd
 split at hd
 ·exact h ad hd
 ·cases A with
  | none=>cases hd
  | some a=>
    simp only[QEd,Option.some.injEq]at hd
    rw[←hd,Qtk]
    exact h a rfl
theorem Rd.onlyOff {w w':World} {A:Option Addr} {n:Nat} {vs:List Value} {g:Nat} (h:Rd w A n vs) (ho:Only g w w') (hA:Off A g):Rd w' A n vs:=h.only ho fun b o e=>hA ⟨b,o,none⟩ e
theorem QzM {b o g:Nat} (h:b<g):Off (some ⟨b,o,none⟩) g:=fun ad e=>by cases e;exact Nat.ne_of_lt h
theorem Rd.off {w:World} {A:Option Addr} {n:Nat} {vs:List Value} (h:Rd w A n vs) (hn:0<n) {g:Nat} (hg:w.heap.size≤g):Off A g:=by
 obtain⟨b,o,rfl,hb,_⟩:=h.2 hn
 exact QzM (by omega)
theorem QwV {w:World} {base:Nat} {e:TypeId} {A:Option Addr} {n c:Nat} {vs:List Value} (h:w.ownsRow base e 1 (.slice A n c) n vs) {g:Nat} (hg:g<base):Off A g:=by
 intro ad hd
 subst hd
 have:=(h.lt ad.block rfl).1
 omega
theorem Qf8 {P:Program} {t e:TypeId} (ht:P.underlying t=some (.slice e)) (hs:(P.info? e).map (·.size)=some 1) (A:Option Addr) (n c:Nat) (kl kh:IntKind) (l h:Int) (h0:0≤l) (h1:l≤h) (h2:h≤c) (W:World):
 (Instr.sliceAt t (.slice A n c) (some (.int kl l)) (some (.int kh h)) none).run P W= .ok (.slice (cutA A l.toNat c) (h.toNat-l.toNat) (c-l.toNat)) W:=by
 have he:P.elem t=e:=by unfold Program.elem;rw[ht]
 have ht':P.underlying t=some (.slice (P.elem t)):=by rw[he];exact ht
 rw[run_sliceAt_slice _ _ _ _ _ _ ht',run_slice_lh _ _ _ _ _ ht' kl kh l h h0 h1 h2,he]
 cases hq:P.info? e with
 | none=>simp[hq]at hs
 | some i=>
   have hsz:i.size=1:=by simpa [hq] using hs
   simp[sizeOf,typeInfo,hq,hsz,sliced,cutA]
theorem QiW {P:Program} {t e:TypeId} (ht:P.underlying t=some (.slice e)) (hs:(P.info? e).map (·.size)=some 1) (A:Option Addr) (n c:Nat) (kl:IntKind) (l:Int) (h0:0≤l) (h1:l≤n) (W:World):
 (Instr.sliceAt t (.slice A n c) (some (.int kl l)) none none).run P W= .ok (.slice (cutA A l.toNat c) (n-l.toNat) (c-l.toNat)) W:=by
 have he:P.elem t=e:=by unfold Program.elem;rw[ht]
 have ht':P.underlying t=some (.slice (P.elem t)):=by rw[he];exact ht
 rw[run_sliceAt_slice _ _ _ _ _ _ ht',run_slice_l (ht:=ht') (h0:=h0) (h1:=h1),he]
 cases hq:P.info? e with
 | none=>simp[hq]at hs
 | some i=>
   have hsz:i.size=1:=by simpa [hq] using hs
   simp[sizeOf,typeInfo,hq,hsz,sliced,cutA]
theorem Qlh (A:Option Addr) (c:Nat):cutA A 0 c=A:=by
 unfold cutA
 split
 ·rfl
 ·cases A with
  | none=>rfl
  | some a=>simp[Addr.add]
theorem Qmd {P:Program} {t e:TypeId} (ht:P.underlying t=some (.slice e)) (hs:(P.info? e).map (·.size)=some 1) (A:Option Addr) (n c:Nat) (kh:IntKind) (h:Int) (h0:0≤h) (h2:h≤c) (W:World):
 (Instr.sliceAt t (.slice A n c) none (some (.int kh h)) none).run P W= .ok (.slice A h.toNat c) W:=by
 have he:P.elem t=e:=by unfold Program.elem;rw[ht]
 have ht':P.underlying t=some (.slice (P.elem t)):=by rw[he];exact ht
 rw[run_sliceAt_slice _ _ _ _ _ _ ht',run_slice_h (ht:=ht') (h0:=h0) (h2:=h2),he]
 cases hq:P.info? e with
 | none=>simp[hq]at hs
 | some i=>
   have hsz:i.size=1:=by simpa [hq] using hs
   have:=Qlh A c
   unfold cutA at this
   simp[sizeOf,typeInfo,hq,hsz,sliced]
   simpa using this
theorem Qm7 {P:Program} {t e:TypeId} (ht:P.underlying t=some (.slice e)) (hs:(P.info? e).map (·.size)=some 1) (A:Option Addr) (n c:Nat) (kl kh:IntKind) (l h:Nat) (h1:l≤h) (h2:h≤c) (W:World):
 (Instr.sliceAt t (.slice A n c) (some (.int kl (l:Int))) (some (.int kh (h:Int))) none).run P W= .ok (.slice (cutA A l c) (h-l) (c-l)) W:=by
 simpa using Qf8 ht hs A n c kl kh l h (by omega) (by omega) (by omega) W
theorem Qk6 {P:Program} {t e:TypeId} (ht:P.underlying t=some (.slice e)) (hs:(P.info? e).map (·.size)=some 1) (A:Option Addr) (n c:Nat) (kl:IntKind) (l:Nat) (h1:l≤n) (W:World):
 (Instr.sliceAt t (.slice A n c) (some (.int kl (l:Int))) none none).run P W= .ok (.slice (cutA A l c) (n-l) (c-l)) W:=by
 simpa using QiW ht hs A n c kl l (by omega) (by omega) W
theorem Qqd {P:Program} {t e:TypeId} (ht:P.underlying t=some (.slice e)) (hs:(P.info? e).map (·.size)=some 1) (A:Option Addr) (n c:Nat) (kh:IntKind) (h:Nat) (h2:h≤c) (W:World):
 (Instr.sliceAt t (.slice A n c) none (some (.int kh (h:Int))) none).run P W= .ok (.slice A h c) W:=by
 simpa using Qmd ht hs A n c kh h (by omega) (by omega) W
theorem Qlr {P:Program} {t e:TypeId} {N:Nat} (ht:P.underlying t=some (.array N e)) (hs:(P.info? e).map (·.size)=some 1) (b o:Nat) (kl:IntKind) (l:Nat) (h1:l<N) (W:World):
 (Instr.sliceAt t (.pointer (some ⟨b,o,none⟩)) (some (.int kl (l:Int))) none none).run P W= .ok (.slice (some ⟨b,o+l,none⟩) (N-l) (N-l)) W:=by
 have he:P.elem t=e:=by unfold Program.elem;rw[ht]
 have hn:P.arrayLen t=N:=by unfold Program.arrayLen;rw[ht]
 have ht':P.underlying t=some (.array (P.arrayLen t) (P.elem t)):=by rw[he,hn];exact ht
 rw[run_sliceAt_array_l (ht:=ht') (h0:=by omega) (h1:=by rw[hn];omega),he,hn]
 cases hq:P.info? e with
 | none=>simp[hq]at hs
 | some i=>
   have hsz:i.size=1:=by simpa [hq] using hs
   simp[sizeOf,typeInfo,hq,hsz,slicedAt,show ¬N=l by omega,QcK]
theorem QiE {P:Program} {t e:TypeId} {N:Nat} (ht:P.underlying t=some (.array N e)) (hs:(P.info? e).map (·.size)=some 1) (b o:Nat) (W:World):
 (Instr.sliceAt t (.pointer (some ⟨b,o,none⟩)) none none none).run P W= .ok (.slice (some ⟨b,o,none⟩) N N) W:=by
 have he:P.elem t=e:=by unfold Program.elem;rw[ht]
 have hn:P.arrayLen t=N:=by unfold Program.arrayLen;rw[ht]
 have ht':P.underlying t=some (.array (P.arrayLen t) (P.elem t)):=by rw[he,hn];exact ht
 rw[run_sliceAt_array_all (ht:=ht'),he,hn]
 cases hq:P.info? e with
 | none=>simp[hq]at hs
 | some i=>
   have hsz:i.size=1:=by simpa [hq] using hs
   simp[sizeOf,typeInfo,hq,hsz,slicedAt,QcK]
section
variable {P:Program} {ops:Array Oper} {rest:List Oper} {o:Oper} {a:Act} {w:World} {Q:Exit→Act→World→Prop}
theorem Qas (hgd:o.guard=none) (d s:Operand) (dT sT:TypeId) (ho:o.op= .call { callee:=.builtin .copy,args:= #[d,s],argTypes:= #[dT,sT] }) (elem:TypeId) (hu:P.underlying dT=some (.slice elem)) (hsz:(P.info? elem).map (·.size)=some 1)
 (g off dLen dCap:Nat) (t:TypeId) (l:List Value) (hg:Blk w g t l) (A:Option Addr) (m c:Nat) (vs:List Value) (hr:Rd w A m vs) (h1:∀v∈vs,v.oneCell'=true)
 (hd:a.eval d= .slice (some ⟨g,off,none⟩) dLen dCap) (hs:a.eval s= .slice A m c) (hfit:off+dLen≤l.length)
 (h:∀w',Blk w' g t (Qao l off (vs.take dLen))→Only g w w'→wpList P ops Q rest (a.put o.dst (.int .i64 ((min m dLen:Nat):Int))) w'):wpList P ops Q (o :: rest) a w:=by
 have hlen:=hr.1
 have hmin:(vs.take dLen).length=Nat.min m dLen:=by rw[QC5,hlen,Nat.min_comm]
 by_cases h0:Nat.min m dLen=0
 ·refine wpList_copy_nothing hgd d s dT sT ho elem hu hsz _ A dLen dCap m c hd hs h0 ?_
  have hnil:vs.take dLen=[]:=QDk (by rw[hmin,h0])
  have:=h w (by rw[hnil];simpa [Qao] using hg) (World.grownBy.refl w _)
  have e0:min m dLen=0:=h0
  rwa [e0]at this
 ·have hpos:0<m:=by
   rcases Nat.eq_zero_or_pos m with e|e
   ·subst e;exact absurd (Nat.zero_min dLen) h0
   ·exact e
  obtain⟨b,off2,rfl,hb,hc⟩:=hr.2 hpos
  refine wpList_copy_own hgd d s dT sT ho elem hu hsz g off dLen dCap ⟨b,off2,none⟩ m c hd hs l.toArray t hg (vs.take dLen) hmin (fun j v hv=>?_) (by rw[hmin];simp;have:Nat.min m dLen≤dLen:=Nat.min_le_right m dLen;omega) (fun v hv=>h1 v (List.mem_of_mem_take hv)) ?_
  ·rw[QcK]
   rw[QEm]at hv
   split at hv
   ·exact hc j v hv
   ·cases hv
  ·rw[hmin]
   refine h _ ?_ (QfT w g _)
   have:=setRow_heap w g l.toArray (l.toArray.toList.take off++(vs.take dLen++l.toArray.toList.drop (off+(Nat.min m dLen)))).toArray t _ hg
   unfold Blk Qao
   rw[hmin]
   simpa using this
end
theorem Qdo:(Tryz.prog.info? 5).map (fun i=>(i.zero,i.size,i.bytes))=some (some (.int .u8 0),1,1):=by kernel_rfl
theorem Qbt:(Tryz.prog.info? 5).map (·.size)=some 1:=by kernel_rfl
@[go_sem high] theorem cut8 (A:Option Addr) (n c:Nat) (kl kh:IntKind) (l h:Nat) (h1:l≤h) (h2:h≤c) (W:World):
   (Instr.sliceAt 22 (.slice A n c) (some (.int kl (l:Int))) (some (.int kh (h:Int))) none).run Tryz.prog W= .ok (.slice (cutA A l c) (h-l) (c-l)) W:=Qm7 Tryz.underlying22 Qbt A n c kl kh l h h1 h2 W
@[go_sem high] theorem QhW (A:Option Addr) (n c:Nat) (kl:IntKind) (l:Nat) (h1:l≤n) (W:World):
   (Instr.sliceAt 22 (.slice A n c) (some (.int kl (l:Int))) none none).run Tryz.prog W= .ok (.slice (cutA A l c) (n-l) (c-l)) W:=Qk6 Tryz.underlying22 Qbt A n c kl l h1 W
@[go_sem high] theorem QrI (A:Option Addr) (n c:Nat) (kh:IntKind) (h:Nat) (h2:h≤c) (W:World):
   (Instr.sliceAt 22 (.slice A n c) none (some (.int kh (h:Int))) none).run Tryz.prog W= .ok (.slice A h c) W:=Qqd Tryz.underlying22 Qbt A n c kh h h2 W
@[go_sem high] theorem QyH (b o:Nat) (kl:IntKind) (l:Nat) (h1:l<64) (W:World):
   (Instr.sliceAt 465 (.pointer (some ⟨b,o,none⟩)) (some (.int kl (l:Int))) none none).run Tryz.prog W= .ok (.slice (some ⟨b,o+l,none⟩) (64-l) (64-l)) W:=Qlr Tryz.underlying465 Qbt b o kl l h1 W
@[go_sem high] theorem Qzb (b o:Nat) (W:World):
   (Instr.sliceAt 465 (.pointer (some ⟨b,o,none⟩)) none none none).run Tryz.prog W= .ok (.slice (some ⟨b,o,none⟩) 64 64) W:=QiE Tryz.underlying465 Qbt b o W
@[go_sem high] theorem QyY (b o:Nat) (W:World):
   (Instr.sliceAt 25 (.pointer (some ⟨b,o,none⟩)) none none none).run Tryz.prog W= .ok (.slice (some ⟨b,o,none⟩) 32 32) W:=QiE Tryz.underlying25 Qbt b o W
theorem Qci (l:List UInt8) (i:Nat) (x:UInt8):(l.map W8).set i (W8 x)=(l.set i x).map W8:=by rw[QE3]
def OwnB (w:World) (base:Nat) (A:Option Addr) (n c:Nat) (bs:List UInt8):Prop:=w.ownsRow base 5 1 (.slice A n c) n (bs.map W8)
theorem OwnB.rd {w:World} {base:Nat} {A:Option Addr} {n c:Nat} {bs:List UInt8} (h:OwnB w base A n c bs):RdB w A n bs:=Qid h
theorem OwnB.later {w w':World} {base:Nat} {A:Option Addr} {n c:Nat} {bs:List UInt8} (h:OwnB w base A n c bs) (hl:Later w w'):OwnB w' base A n c bs:=Qa5 h hl
theorem OwnB.mono {w:World} {base base':Nat} {A:Option Addr} {n c:Nat} {bs:List UInt8} (h:OwnB w base A n c bs) (hb:base'≤base):OwnB w base' A n c bs:=Qc3 h hb
theorem OwnB.len {w:World} {base:Nat} {A:Option Addr} {n c:Nat} {bs:List UInt8} (h:OwnB w base A n c bs):bs.length=n:=h.rd.len
end Go.Proofs.YticcbmhcgmhohaaGreat
namespace Go.Proofs.YticcbmhcgmhohaaGreat
open Go.RowKit
open Go.BigFrame
section
variable {P:Program} {ops:Array Oper} {C:World→Prop} {Q:Act→Prop} {a:Act} {o:Oper} {rest:List Oper}
theorem Qav {K:Act→Prop} (ty:TypeId) (x:Operand) (ho:o.op= .load ty x) (g off:Nat) (vs:List Value) (hc:∀w,C w→∀j v,vs[j]?=some v→w.cell? ⟨g,off+j,none⟩=some v)
 (hx:a.eval x= .pointer (some ⟨g,off,none⟩)) (d:TypeDesc) (hu:P.underlying ty=some d) (hd:QbO d=true) (hi:(P.info? ty).map (·.size)=some vs.length)
 (h:K (a.put o.dst (.agg vs.toArray))):o.quiet P a C K:=
 ⟨.agg vs.toArray,fun w hw=>by
   unfold Oper.quietAt execOp
   simp only[ho,hx,Instr.loadAt,Instr.sureAddr,Sem.run_bind,Sem.run_pure,Result.andThen_ok,Qbl w g off ty vs d (hc w hw) hu hd hi]
   exact⟨rfl,rfl⟩,h⟩
end
section
variable {P:Program} {ops:Array Oper} {rest:List Oper} {o:Oper} {a:Act} {w:World} {Q:Exit→Act→World→Prop}
theorem Qcf (hgd:o.guard=none) (l c:Operand) (t:TypeId) (ho:o.op=Op.makeSlice t l c) (e:TypeId) (z:Value) (bytes:Nat) (ht:P.underlying t=some (.slice e))
 (hinfo:(P.info? e).map (fun i=>(i.zero,i.size,i.bytes))=some (some z,1,bytes)) (hz1:z.cells= #[z]) (kl kc:IntKind) (L C:Int) (n m:Nat) (hl:a.eval l= .int kl L) (hc:a.eval c= .int kc C) (hL:L=(n:Int)) (hC:C=(m:Int))
 (hnm:n≤m) (hby:0<bytes) (hsz:m*bytes≤140737488355328) (h:∀w',w'.ownsRow w.heap.size e 1 (.slice (some ⟨w.heap.size,0,none⟩) n m) n (QCC n z)→Later w w'→wpList P ops Q rest (a.put o.dst (.slice (some ⟨w.heap.size,0,none⟩) n m)) w'):
 wpList P ops Q (o :: rest) a w:=by
 obtain⟨i,hi,hz,hsize,hbytes⟩:=info_parts hinfo
 have hn:m≤140737488355328:=QDm (QDO _ hby) hsz
 refine wpList_plain hgd fun K hK=>?_
 have hb:((i.bytes:Int)*(m:Int))≤281474976710656:=by
  rw[hbytes,←QEp,QDD]
  omega
 have hr:=run_make (P:=P) w t e i z ht hi hz kl kc n m (by omega) (by omega) hb (by omega)
 simp only[QEv,hsize,QEq,hz1]at hr
 subst hL
 subst hC
 unfold Oper.wp
 simp only[execOp,ho,hl,hc,Sem.run_bind,hr,Result.andThen_ok,Sem.run_pure]
 refine hK _ _ (h _ ?_ (Qaa _ _))
 have hm:madeCells #[z] m=(QCC m z).toArray:=by
  apply Array.toList_inj.1
  rw[toList_madeCells_one]
 rw[hm]
 have:=World.ownsRow_lit (e:=e) (size:=1) w (QCC m z).toArray m (QCP _) (by unfold maxLen;omega) (by simp)
 refine⟨by simp,.inr ⟨w.heap.size,m,(QCC m z).toArray,rfl,QCP _,Blk.new w e _,hnm,by unfold maxLen;omega,by simp,?_⟩⟩
 simp[List.take_replicate,hnm]
end
@[go_sem high] theorem QAX (A:Option Addr) (n c:Nat) (kl kh:IntKind) (l h:Int) (h0:0≤l) (h1:l≤h) (h2:h≤c) (W:World):
   (Instr.sliceAt 22 (.slice A n c) (some (.int kl l)) (some (.int kh h)) none).run Tryz.prog W= .ok (.slice (cutA A l.toNat c) (h.toNat-l.toNat) (c-l.toNat)) W:=Qf8 Tryz.underlying22 Qbt A n c kl kh l h h0 h1 h2 W
theorem Quz:(Tryz.prog.info? 22).map (fun i=>(i.zero,i.size,i.bytes))=some (some (.slice none 0 0),1,24):=by kernel_rfl
theorem Qlv {w w':World} {b1 b2:Nat} {e1 e2:TypeId} {v1 v2:Value} {n1 n2:Nat} {x1 x2:List Value} (h1:w.ownsRow b1 e1 1 v1 n1 x1) (h2:w.ownsRow b2 e2 1 v2 n2 x2) (hne:e1≠e2) (hg:w.grownBy w' v2.ownBlock):
 w'.ownsRow b1 e1 1 v1 n1 x1:=by
 refine h1.kept hg ?_
 rcases h1.2 with ⟨rfl,_⟩|⟨g1,c1,cur1,rfl,_,hh1,_⟩
 ·exact .inl rfl
 ·right
  rcases h2.2 with ⟨rfl,_⟩|⟨g2,c2,cur2,rfl,_,hh2,_⟩
  ·simp[Value.ownBlock]
  ·intro hb
   simp only[Value.ownBlock,Option.some.injEq]at hb
   subst hb
   rw[hh1]at hh2
   injection hh2 with hh2
   injection hh2 with _ h
   exact hne h
def OwnParts (w:World) (base:Nat) (A:Option Addr) (n c:Nat) (ps:List (List UInt8)):Prop:=
 ∃vs:List Value,w.ownsRow base 22 1 (.slice A n c) n vs∧vs.length=ps.length∧∀(j:Nat) v p,vs[j]?=some v→ps[j]?=some p→∃A' n' c',v= .slice A' n' c'∧OwnB w base A' n' c' p
theorem OwnParts.later {w w':World} {base:Nat} {A:Option Addr} {n c:Nat} {ps:List (List UInt8)} (h:OwnParts w base A n c ps) (hl:Later w w'):OwnParts w' base A n c ps:=by
 obtain⟨vs,h1,h2,h3⟩:=h
 exact⟨vs,Qa5 h1 hl,h2,fun j v p hv hp=>by obtain⟨A',n',c',e1,e2⟩:=h3 j v p hv hp;exact⟨A',n',c',e1,e2.later hl⟩⟩
theorem OwnParts.len {w:World} {base:Nat} {A:Option Addr} {n c:Nat} {ps:List (List UInt8)} (h:OwnParts w base A n c ps):ps.length=n:=by
 obtain⟨vs,h1,h2,_⟩:=h
 rw[←h2]
 simpa using h1.1
theorem Qf5 {α:Type} [BEq α] [LawfulBEq α] (z:α):∀(xs ys:List α),xs.length=ys.length→((QDu xs.length).all fun i=>xs.getD i z==ys.getD i z)=(xs==ys)
 | [],[],_=>rfl
 | x :: xs,y :: ys,h=>by
   have ih:=Qf5 z xs ys (by simpa using h)
   rw[QDp,List.range_succ_eq_map,QDZ,List.all_map]
   simp only[List.getD_cons_zero,Function.comp_def,List.getD_cons_succ,ih]
   simp[List.cons_beq_cons]
 | [],_ :: _,h=>by simp at h
 | _ :: _,[],h=>by simp at h
section
variable {P:Program} (w:World)
theorem Qa8 {α:Type} [BEq α] [LawfulBEq α] (z:α) (f:α→Value) (d:Nat) (t e:TypeId) (n:Nat) (ht:P.underlying t=some (.array n e)) (hs:(P.info? e).map (·.size)=some 1) {d0:TypeDesc} (he:P.underlying e=some d0) (hd:QbO d0=false)
 (heq:∀d x y w,(Op.equalIn (d+1) e (f x) (f y)).run P w= .ok (x==y) w) (xs ys:List α) (hx:xs.length=n) (hy:ys.length=n):
 (Op.equalIn (d+2) t (.agg (xs.map f).toArray) (.agg (ys.map f).toArray)).run P w= .ok (xs==ys) w:=by
 have hsz:∀w,(sizeOf e).run P w= .ok 1 w:=by
  intro w
  cases hq:P.info? e with
  | none=>simp[hq]at hs
  | some inf=>
    have hsz:inf.size=1:=by simpa [hq] using hs
    simp[sizeOf,typeInfo,hq,hsz]
 have hagg:∀w,(isAgg e).run P w= .ok false w:=by
  intro w
  unfold isAgg
  rw[Sem.run_bind,run_underlying he w]
  cases d0<;>first|(simp;done)|(cases hd)
 rw[←Qf5 z xs ys (hx.trans hy.symm),hx,List.range_eq_range',Op.equalIn]
 simp only[Sem.run_bind,run_underlying ht,Result.andThen_ok,hsz,Std.Legacy.Range.forIn_eq_forIn_range',Std.Legacy.Range.size,QE0,Nat.add_sub_cancel,Nat.div_one]
 have hl:∀i∈List.range' 0 n 1,i<n:=fun i hi=>by simpa using (List.mem_range'_1.1 hi).2
 generalize List.range' 0 n 1=l at hl ⊢
 induction l with
 | nil=>simp
 | cons i l ih=>
   have hi:i<n:=hl i (by simp)
   have px:(part e (xs.map f).toArray (i*1)).run P w= .ok (f (xs.getD i z)) w:=by
    simp[part,Sem.run_bind,hagg,List.getD,QCJ (show i<xs.length by omega)]
   have py:(part e (ys.map f).toArray (i*1)).run P w= .ok (f (ys.getD i z)) w:=by
    simp[part,Sem.run_bind,hagg,List.getD,QCJ (show i<ys.length by omega)]
   have pe:=heq d (xs.getD i z) (ys.getD i z) w
   simp only[List.forIn_cons,Sem.run_bind,px,py,pe,Result.andThen_ok,QDZ]
   cases hb:(xs.getD i z==ys.getD i z)
   ·simp
   ·simp only[Bool.not_true,Bool.false_eq_true,if_false,Sem.run_pure,Result.andThen_ok,Bool.true_and]
    exact ih fun j hj=>hl j (by simp[hj])
theorem Qi8 (e:TypeId) (k:IntKind) (he:P.underlying e=some (.int k)) (d:Nat) (x y:UInt8) (w:World):(Op.equalIn (d+1) e (W8 x) (W8 y)).run P w= .ok (x==y) w:=by
 rw[W8,W8,run_equalIn_int w d e .u8 k _ _ he]
 congr 1
 rw[QDw]
 simp[←QDr]
 omega
theorem Qtq (e:TypeId) (k:IntKind) (he:P.underlying e=some (.int k)) (d:Nat) (x y:UInt32) (w:World):(Op.equalIn (d+1) e (W32 x) (W32 y)).run P w= .ok (x==y) w:=by
 rw[W32,W32,run_equalIn_int w d e .u32 k _ _ he]
 congr 1
 rw[QDw]
 simp[←QE2]
 omega
theorem Qim (e:TypeId) (k:IntKind) (he:P.underlying e=some (.int k)) (d:Nat) (x y:UInt64) (w:World):(Op.equalIn (d+1) e (W64 x) (W64 y)).run P w= .ok (x==y) w:=by
 rw[W64,W64,run_equalIn_int w d e .u64 k _ _ he]
 congr 1
 rw[QDw]
 simp[←QEz]
 omega
end
theorem QzA:Tryz.prog.eqGuardType Tryz.prog.depth 25=false:=by kernel_rfl
theorem QhT (xs ys:List UInt8) (hx:xs.length=32) (hy:ys.length=32) (w:World):(binOp .eql 25 (.agg (xs.map W8).toArray) (.agg (ys.map W8).toArray)).run Tryz.prog w= .ok (.bool (xs==ys)) w:=by
 rw[run_eql_struct,Qa8 w 0 W8 9998 25 5 32 Tryz.underlying25 Qbt Tryz.underlying5 rfl (Qi8 _ _ Tryz.underlying5) xs ys hx hy]
 rfl
theorem Qiu (xs ys:List UInt8) (hx:xs.length=32) (hy:ys.length=32) (w:World):(binOp .neq 25 (.agg (xs.map W8).toArray) (.agg (ys.map W8).toArray)).run Tryz.prog w= .ok (.bool (xs != ys)) w:=by
 rw[run_neq_struct,Qa8 w 0 W8 9998 25 5 32 Tryz.underlying25 Qbt Tryz.underlying5 rfl (Qi8 _ _ Tryz.underlying5) xs ys hx hy]
 rfl
@[go_sem high] theorem Qya (op:BinOp) (x y:Operand) (xs ys:Array Value) (w:World):(eqGuard op 25 x y (.agg xs) (.agg ys)).run Tryz.prog w= .ok () w:=run_eqGuard_agg w op _ x y xs ys QzA
attribute [go_sem high] QhT Qiu
section
variable {P:Program} {ops:Array Oper} {rest:List Oper} {o:Oper} {a:Act} {w:World} {Q:Exit→Act→World→Prop}
theorem Qgq (hgd:o.guard=none) (t:TypeId) (x:Operand) (ho:o.op= .convert t t x) (e:TypeId) (ht:P.underlying t=some (.slice e)) (he:P.underlying e=some (.int .u8))
 (w0:World) (C:List Value) (hw:w=w0.alloc (.cells C.toArray e)) (g n c:Nat) (hg:w0.heap.size=g) (hx:a.eval x= .slice (some ⟨g,0,none⟩) n c)
 (h:∀w',Later w0 w'→Rd w' (some ⟨g,0,none⟩) C.length C→g+1=w'.heap.size→wpList P ops Q rest (a.put o.dst (.slice (some ⟨g,0,none⟩) n c)) w'):wpList P ops Q (o :: rest) a w:=
 wpList_plain hgd fun K hK=>by
  subst hg
  subst hw
  have hr:=Lib.run_convert_bytes_const (P:=P) w0 t e C.toArray n c ht he
  unfold Oper.wp execOp
  simp only[ho,hx,Sem.run_bind,hr,Result.andThen_ok,Sem.run_pure]
  refine hK _ _ (h _ (Qaa _ _) ⟨rfl,fun _=>⟨_,_,rfl,by simp,fun j u hu=>?_⟩⟩ (by simp))
  rw[QC4]
  unfold World.cell?
  have hb:(w0.alloc (.cells C.toArray e (C.toArray.size,C.toArray.size+1))).heap[w0.heap.size]?=some (.cells C.toArray e (C.toArray.size,C.toArray.size+1)):=by
   show (w0.heap.push _)[w0.heap.size]?=_
   simp
  rw[hb]
  simpa using hu
end
theorem Qov (w:World):RdB w none 0 []:=⟨rfl,fun h=>absurd h (by omega)⟩
theorem QqK (A:Option Addr) (n c:Nat):(Value.slice A n c).oneCell'=true:=rfl
end Go.Proofs.YticcbmhcgmhohaaGreat
namespace Go.Proofs.YticcbmhcgmhohaaGreat
open Go.RowKit
theorem Qnh {w:World} {base:Nat} {e:TypeId} {A:Option Addr} {n c:Nat} {vs:List Value} (h:w.ownsRow base e 1 (.slice A n c) n vs):n≤c:=by
 rcases h.2 with ⟨_,h0⟩|⟨g,cap,cur,hv,_,_,hnc,_⟩
 ·omega
 ·cases hv
  exact hnc
theorem OwnB.cap {w:World} {base:Nat} {A:Option Addr} {n c:Nat} {bs:List UInt8} (h:OwnB w base A n c bs):n≤c:=Qnh h
def Avoid (bad:Nat→Prop) (A:Option Addr) (n:Nat):Prop:=0<n→∀ad,A=some ad→ ¬bad ad.block
theorem Avoid.off {bad:Nat→Prop} {A:Option Addr} {n:Nat} (h:Avoid bad A n) {g:Nat} (hg:bad g) (hn:0<n):Off A g:=fun ad hd e=>h hn ad hd (e ▸ hg)
def Part (w:World) (bad:Nat→Prop) (v:Value) (p:List UInt8):Prop:=∃A n c,v= .slice A n c∧n≤c∧RdB w A n p∧Avoid bad A n
def Parts (w:World) (bad:Nat→Prop) (A:Option Addr) (n:Nat) (ps:List (List UInt8)):Prop:=
 ∃vs:List Value,Rd w A n vs∧Avoid bad A n∧vs.length=ps.length∧∀(j:Nat) v p,vs[j]?=some v→ps[j]?=some p→Part w bad v p
theorem Part.later {w w':World} {bad:Nat→Prop} {v:Value} {p:List UInt8} (h:Part w bad v p) (hl:Later w w'):Part w' bad v p:=by
 obtain⟨A,n,c,h1,h2,h3,h4⟩:=h
 exact⟨A,n,c,h1,h2,h3.later hl,h4⟩
theorem Rd.onlyAvoid {w w':World} {A:Option Addr} {n:Nat} {vs:List Value} {g:Nat} {bad:Nat→Prop} (h:Rd w A n vs) (hv:Avoid bad A n) (ho:Only g w w') (hg:bad g):Rd w' A n vs:=by
 by_cases hn:0<n
 ·exact h.onlyOff ho (hv.off hg hn)
 ·exact⟨h.1,fun h'=>absurd h' hn⟩
theorem Part.only {w w':World} {bad:Nat→Prop} {v:Value} {p:List UInt8} {g:Nat} (h:Part w bad v p) (ho:Only g w w') (hg:bad g):Part w' bad v p:=by
 obtain⟨A,n,c,h1,h2,h3,h4⟩:=h
 exact⟨A,n,c,h1,h2,Rd.onlyAvoid h3 h4 ho hg,h4⟩
theorem Parts.later {w w':World} {bad:Nat→Prop} {A:Option Addr} {n:Nat} {ps:List (List UInt8)} (h:Parts w bad A n ps) (hl:Later w w'):Parts w' bad A n ps:=by
 obtain⟨vs,h1,h2,h3,h4⟩:=h
 exact⟨vs,h1.later hl,h2,h3,fun j v p hv hp=>(h4 j v p hv hp).later hl⟩
theorem Parts.only {w w':World} {bad:Nat→Prop} {A:Option Addr} {n:Nat} {ps:List (List UInt8)} {g:Nat} (h:Parts w bad A n ps) (ho:Only g w w') (hg:bad g):Parts w' bad A n ps:=by
 obtain⟨vs,h1,h2,h3,h4⟩:=h
 exact⟨vs,h1.onlyAvoid h2 ho hg,h2,h3,fun j v p hv hp=>(h4 j v p hv hp).only ho hg⟩
theorem Avoid.more {w:World} {bad bad':Nat→Prop} {A:Option Addr} {n:Nat} {vs:List Value} (h:Avoid bad A n) (hr:Rd w A n vs) (hb:∀b,bad' b→bad b∨w.heap.size≤b):Avoid bad' A n:=by
 intro hn ad hd hbad
 rcases hb _ hbad with h1|h1
 ·exact h hn ad hd h1
 ·obtain⟨b,o,rfl,hlt,_⟩:=hr.2 hn
  cases hd
  exact absurd hlt (by simpa using h1)
theorem Parts.more {w:World} {bad bad':Nat→Prop} {A:Option Addr} {n:Nat} {ps:List (List UInt8)} (h:Parts w bad A n ps) (hb:∀b,bad' b→bad b∨w.heap.size≤b):Parts w bad' A n ps:=by
 obtain⟨vs,h1,h2,h3,h4⟩:=h
 refine⟨vs,h1,h2.more h1 hb,h3,fun j v p hv hp=>?_⟩
 obtain⟨A',n',c',e1,e2,e3,e4⟩:=h4 j v p hv hp
 exact⟨A',n',c',e1,e2,e3,e4.more e3 hb⟩
theorem Parts.len {w:World} {bad:Nat→Prop} {A:Option Addr} {n:Nat} {ps:List (List UInt8)} (h:Parts w bad A n ps):ps.length=n:=by
 obtain⟨vs,h1,_,h3,_⟩:=h
 rw[←h3,h1.1]
theorem Qeh (ps:List (List UInt8)) (k:Nat) (h:k<ps.length):(ps.take (k+1)).flatten=(ps.take k).flatten++ps[k]:=by
 rw[QDd h,List.flatten_append]
 simp
theorem QcL (ps:List (List UInt8)) (k:Nat):(ps.take k).flatten.length≤ps.flatten.length:=by
 have:ps.flatten=(ps.take k).flatten++(ps.drop k).flatten:=by rw[←List.flatten_append,QDa]
 rw[this,QCM]
 omega
theorem QoX:(5:TypeId)≠22:=by decide
theorem OwnParts.snoc {w w':World} {base:Nat} {A A' A1:Option Addr} {n c c' n1 c1:Nat} {ps:List (List UInt8)} {p:List UInt8} {us:List Value}
 (h1:w.ownsRow base 22 1 (.slice A n c) n us) (h2:us.length=ps.length)
 (h3:∀(j:Nat) v p,us[j]?=some v→ps[j]?=some p→∃A' n' c',v= .slice A' n' c'∧OwnB w base A' n' c' p) (hp:OwnB w base A1 n1 c1 p) (hg:w.grownBy w' (Value.slice A n c).ownBlock)
 (hown:w'.ownsRow base 22 1 (.slice A' (n+1) c') (n+1) (us++[.slice A1 n1 c1])):OwnParts w' base A' (n+1) c' (ps++[p]):=by
 refine⟨_,hown,by simp[h2],fun j v q hv hq=>?_⟩
 rcases QDJ j us.length with hj|hj
 ·rw[QCW hj]at hv
  rw[QCW (by omega)]at hq
  obtain⟨B,m,d,e1,e2⟩:=h3 j v q hv hq
  exact⟨B,m,d,e1,Qlv e2 h1 QoX hg⟩
 ·rw[QCR hj]at hv
  rw[QCR (by omega)]at hq
  have hj0:j-us.length=0:=by
   have:=(QCV.1 hv).1
   simp at this
   omega
  rw[hj0]at hv
  rw[←h2,hj0]at hq
  simp only[QCE,Option.some.injEq]at hv hq
  subst hv
  subst hq
  exact⟨_,_,_,rfl,Qlv hp h1 QoX hg⟩
theorem Parts.at_ {w:World} {bad:Nat→Prop} {A:Option Addr} {n:Nat} {ps:List (List UInt8)} (h:Parts w bad A n ps) {k:Nat} (hk:k<n):
 ∃b o A' n' c',A=some ⟨b,o,none⟩∧b<w.heap.size∧w.cell? ⟨b,o+k,none⟩=some (.slice A' n' c')∧n'≤c'∧RdB w A' n' (ps.getD k [])∧Avoid bad A' n':=by
 have hl:=h.len
 obtain⟨vs,hr,_,hvl,hparts⟩:=h
 obtain⟨b,o,rfl,hb,hc⟩:=hr.at_ (by omega)
 have hck:=hc k hk
 obtain⟨A',n',c',hv,h2,h3,h4⟩:=hparts k _ _ (QCJ (by omega)) (QCJ (by omega))
 rw[hv]at hck
 refine⟨b,o,A',n',c',rfl,hb,hck,h2,?_,h4⟩
 rw[QCK,QCJ (by omega)]
 exact h3
theorem QfB (ps:List (List UInt8)) (k:Nat) (h:k<ps.length):ps.take (k+1)=ps.take k++[ps.getD k []]:=by
 rw[QDd h,QCK,QCJ h]
 rfl
theorem QdC (ps:List (List UInt8)) (k:Nat) (h:k<ps.length):ps.getD k []∈ps:=by
 rw[QCK,QCJ h]
 exact QD0 h
def PartAll (w:World) (bad:Nat→Prop):List Value→List (List UInt8)→Prop
 | [],[]=>True
 | v :: vs,p :: ps=>Part w bad v p∧PartAll w bad vs ps
 | _,_=>False
theorem PartAll.at_ {w:World} {bad:Nat→Prop}:∀ {vs:List Value} {ps:List (List UInt8)},PartAll w bad vs ps→vs.length=ps.length∧∀(j:Nat) v p,vs[j]?=some v→ps[j]?=some p→Part w bad v p
 | [],[],_=>⟨rfl,fun j v p hv=>by simp at hv⟩
 | v :: vs,p :: ps,h=>by
   obtain⟨h1,h2⟩:=h
   obtain⟨h3,h4⟩:=PartAll.at_ h2
   refine⟨by simp[h3],fun j u q hu hq=>?_⟩
   cases j with
   | zero=>
     simp only[QCE,Option.some.injEq]at hu hq
     subst hu
     subst hq
     exact h1
   | succ j=>exact h4 j u q (by simpa using hu) (by simpa using hq)
 | [],_ :: _,h=>h.elim
 | _ :: _,[],h=>h.elim
theorem Qbx (A:Option Addr) (n:Nat):Avoid (fun _=>False) A n:=fun _ _ _ h=>h
theorem QdM {w:World} {A:Option Addr} {n:Nat} {vs:List Value} {ps:List (List UInt8)} (h:Rd w A n vs) (hp:PartAll w (fun _=>False) vs ps):Parts w (fun _=>False) A n ps:=
 ⟨vs,h,Qbx A n,hp.at_.1,hp.at_.2⟩
theorem Qdy {w:World} {A:Option Addr} {n c:Nat} {p:List UInt8} (h:RdB w A n p) (hc:n≤c):Part w (fun _=>False) (.slice A n c) p:=⟨A,n,c,rfl,hc,h,Qbx A n⟩
theorem Blk.rd {w:World} {g:Nat} {t:TypeId} {l:List Value} {n:Nat} (h:Blk w g t l) (hn:l.length=n):Rd w (some ⟨g,0,none⟩) n l:=
 ⟨hn,fun _=>⟨g,0,rfl,h.lt,fun j u hu=>by rw[QC4];exact h.cellD j hu⟩⟩
theorem OwnParts.parts {w:World} {base:Nat} {A:Option Addr} {n c:Nat} {ps:List (List UInt8)} (h:OwnParts w base A n c ps):Parts w (fun _=>False) A n ps:=by
 obtain⟨vs,h1,h2,h3⟩:=h
 exact⟨vs,Qid h1,Qbx A n,h2,fun j v p hv hp=>by obtain⟨A',n',c',e1,e2⟩:=h3 j v p hv hp;exact⟨A',n',c',e1,e2.cap,e2.rd,Qbx _ _⟩⟩
section
variable {P:Program} {ops:Array Oper} {rest:List Oper} {o:Oper} {a:Act} {w:World} {Q:Exit→Act→World→Prop}
theorem Qbn (hw:Region.wanted o (yielded ops a.tmps)=true) (ty:TypeId) (x:Operand) (ho:o.op= .load ty x) (g:Nat) (t:TypeId) (l:List Value) (hb:Blk w g t l) (hx:a.eval x= .pointer (some ⟨g,0,none⟩)) (d:TypeDesc) (hu:P.underlying ty=some d) (hd:QbO d=true) (k:Nat) (hi:(P.info? ty).map (·.size)=some k) (hl:l.length=k)
 (h:wpList P ops Q rest (a.put o.dst (.agg l.toArray)) w):wpList P ops Q (o :: rest) a w:=
 BigFrame.wpList_want hw fun K hK=>by
  unfold Oper.wp
  simp only[execOp,ho,hx,Instr.loadAt,Instr.sureAddr,Sem.run_bind,Sem.run_pure,Result.andThen_ok,Qbl w g 0 ty l d (fun j v hv=>by rw[QC4];exact hb.cellD j hv) hu hd (by rw[hl];exact hi)]
  exact hK _ _ h
theorem QaC (hgd:o.guard=none) (hd:o.dst=none) (ty:TypeId) (x y:Operand) (ho:o.op= .store ty x y) (g:Nat) (t:TypeId) (l vs:List Value) (hg:Blk w g t l)
 (hx:a.eval x= .pointer (some ⟨g,0,none⟩)) (hy:a.eval y= .agg vs.toArray) (k:Nat) (hi:(P.info? ty).map (·.size)=some k) (hvl:vs.length=k) (hl:l.length=k) (h1:∀v∈vs,v.oneCell'=true)
 (h:∀w',Blk w' g t vs→Only g w w'→wpList P ops Q rest a w'):wpList P ops Q (o :: rest) a w:=
 Qaf hgd hd ty x y ho g 0 t l vs hg hx hy (by rw[hvl];exact hi) (by omega) h1 fun w' hb ho=>h w' (by rwa [Qak _ _ (by omega)]at hb) ho
end
theorem Qjb {p:Nat→Prop} {k:Nat} (h:∀j,j<k→p j) (hk:p k):∀j,j<k+1→p j:=by
 intro j hj
 rcases QDJ j k with h1|h1
 ·exact h j h1
 ·obtain rfl:j=k:=by omega
  exact hk
theorem QeV:∀(vs:List Value) (k off:Nat) (cells:List Value),off+vs.length≤cells.length→
 (vs.zipIdx k).foldl (fun (cs:Array Value) (x:Value×Nat)=>cs.setIfInBounds (off-k+x.2) x.1) cells.toArray=(Qao cells off vs).toArray∨off<k
 | [],k,off,cells,_=>.inl (by simp[Qao])
 | v :: vs,k,off,cells,h=>by
   rcases QDJ off k with hk|hk
   ·exact .inr hk
   left
   simp only[QDp]at h
   have ih:=QeV vs (k+1) (off+1) (cells.set off v) (by simp;omega)
   rcases ih with ih|ih
   ·rw[List.zipIdx_cons,List.foldl_cons,show off-k+k=off by omega]
    simp only[QCL]
    rw[show off+1-(k+1)=off-k by omega]at ih
    rw[ih]
    congr 1
    rw[Qao,Qao,QDd (by simp;omega),List.drop_set_of_lt (by omega)]
    simp only[List.take_set_of_le (QCP off),List.getElem_set_self,QCU,QCI,QCH,QDp,show off+1+vs.length=off+(vs.length+1) by omega]
   ·omega
theorem QpK (vs cells:List Value) (off:Nat) (h:off+vs.length≤cells.length):
 vs.toArray.zipIdx.foldl (fun (cs:Array Value) (x:Value×Nat)=>cs.setIfInBounds (off+x.2) x.1) cells.toArray=(Qao cells off vs).toArray:=by
 rcases QeV vs 0 off cells h with h|h
 ·rw[←Array.foldl_toList,Array.toList_zipIdx]
  simpa using h
 ·omega
theorem QaY {P:Program} {t:TypeId} {zs:List Value} {fs:Array Field} {pl:List (Nat×Nat)} (hu:P.underlying t=some (.struct fs)) (hz:(P.info? t).bind (·.zero)=some (.agg zs.toArray))
 (hp:(fs.toList.mapM fun f=>(P.info? f.type).map fun i=>(f.offset,i.size))=some pl) (parts:List (Nat×Value)):P.built t parts=Instr.fill (pl.toArray[·]?) zs.toArray parts:=by
 cases hq:P.info? t with
 | none=>simp[hq]at hz
 | some it=>
   have hz':it.zero=some (.agg zs.toArray):=by simpa [hq] using hz
   have hc2:(Value.agg zs.toArray).cells=zs.toArray:=rfl
   unfold Program.built
   rw[hq,hu]
   simp only[hz',hp,hc2]
theorem QaV {place:Nat→Option (Nat×Nat)} {i off:Nat} {cells vs:List Value} {v:Value} {rest:List (Nat×Value)} (hv:v.cells=vs.toArray) (hpi:place i=some (off,vs.length)) (hfit:off+vs.length≤cells.length):
 Instr.fill place cells.toArray ((i,v) :: rest)=Instr.fill place (Qao cells off vs).toArray rest:=by
 simp only[Instr.fill,hpi,hv,List.size_toArray]
 rw[if_neg (by simp;omega),QpK _ _ _ hfit]
theorem Qb7 {place:Nat→Option (Nat×Nat)} {cells:Array Value}:Instr.fill place cells []=some cells:=rfl
section
variable {P:Program} {ops:Array Oper} {rest:List Oper} {o:Oper} {a:Act} {w:World} {Q:Exit→Act→World→Prop}
theorem Qan (hw:Region.wanted o (yielded ops a.tmps)=true) (ty:TypeId) (x:Operand) (ho:o.op= .load ty x) (g off:Nat) (vs:List Value) (hc:∀j v,vs[j]?=some v→w.cell? ⟨g,off+j,none⟩=some v)
 (hx:a.eval x= .pointer (some ⟨g,off,none⟩)) (d:TypeDesc) (hu:P.underlying ty=some d) (hd:QbO d=true) (hi:(P.info? ty).map (·.size)=some vs.length)
 (h:wpList P ops Q rest (a.put o.dst (.agg vs.toArray)) w):wpList P ops Q (o :: rest) a w:=by
 refine BigFrame.wpList_want hw fun K hK=>?_
 unfold Oper.wp
 simp only[execOp,ho,hx,Instr.loadAt,Instr.sureAddr,Sem.run_bind,Sem.run_pure,Result.andThen_ok,Qbl w g off ty vs d hc hu hd hi]
 exact hK _ _ h
theorem Qaj (hw:Region.wanted o (yielded ops a.tmps)=true) (t:TypeId) (parts:Array (Nat×Operand)) (ho:o.op= .build t parts) (vs:List Value) (hb:P.built t (parts.map fun (i,x)=>(i,a.eval x)).toList=some vs.toArray)
 (h:wpList P ops Q rest (a.put o.dst (.agg vs.toArray)) w):wpList P ops Q (o :: rest) a w:=
 BigFrame.wpList_want hw fun K hK=>wp_build t parts ho (by rw[hb];rfl) (by rw[hb];exact hK _ _ h)
end
theorem Qfa:(Tryz.prog.info? 25).map (·.size)=some 32:=by kernel_rfl
theorem QdH {P:Program} {t:TypeId} {n k:Nat} {d:TypeDesc} (hu:P.underlying t=some d) (hd:QbO d=true) (hs:(P.info? t).map (·.size)=some n) (zs r:List Value) (hz:(zs.drop k).take n=r) (w:World):
 (part t zs.toArray k).run P w= .ok (.agg r.toArray) w:=by
 have hs:(sizeOf t).run P w= .ok n w:=by
  cases hq:P.info? t with
  | none=>simp[hq]at hs
  | some inf=>
    have hsz:inf.size=n:=by simpa [hq] using hs
    simp[sizeOf,typeInfo,hq,hsz]
 have ha:(isAgg t).run P w= .ok true w:=by
  unfold isAgg
  simp only[Sem.run_bind,run_underlying hu]
  cases d<;>simp_all [QbO]
 unfold part
 simp only[Sem.run_bind,ha,Result.andThen_ok,if_true,hs,Sem.run_pure]
 rw[←hz]
 simp
theorem Qdb {P:Program} {d n k:Nat} {t e:TypeId} {f:Field} {fs:List Field} (hf:f.type=t) (hu:P.underlying t=some (.array n e)) (hs:(P.info? t).map (·.size)=some n) (hs1:(P.info? e).map (·.size)=some 1) (he:P.underlying e=some (.int .u8))
 (hn:f.name≠ "_") {xs ys:List Value} {p q:List UInt8} (ho:f.offset=k) (hp:(xs.drop k).take n=p.map W8) (hq:(ys.drop k).take n=q.map W8) (hpl:p.length=n) (hql:q.length=n) (w:World):
 (Op.eqFields (d+2) xs.toArray ys.toArray (f :: fs)).run P w=if p==q then (Op.eqFields (d+2) xs.toArray ys.toArray fs).run P w else .ok false w:=by
 rw[Op.eqFields,if_pos hn]
 simp only[Sem.run_bind,hf,ho,QdH hu rfl hs xs _ hp,QdH hu rfl hs ys _ hq,Result.andThen_ok]
 rw[Qa8 w 0 W8 d t e n hu hs1 he rfl (Qi8 _ _ he) p q hpl hql]
 simp only[Result.andThen_ok]
 cases p==q<;>simp
theorem QbH {d:Nat} {f:Field} {fs:List Field} (hf:f.type=25) (hn:f.name≠ "_") {xs ys:List Value} {p q:List UInt8} {k:Nat} (ho:f.offset=k) (hp:(xs.drop k).take 32=p.map W8) (hq:(ys.drop k).take 32=q.map W8) (hpl:p.length=32) (hql:q.length=32) (w:World):
 (Op.eqFields (d+2) xs.toArray ys.toArray (f :: fs)).run Tryz.prog w=if p==q then (Op.eqFields (d+2) xs.toArray ys.toArray fs).run Tryz.prog w else .ok false w:=
 Qdb hf Tryz.underlying25 Qfa Qbt Tryz.underlying5 hn ho hp hq hpl hql w
theorem Qgo {P:Program} {t:TypeId} {fs:Array Field} (hu:P.underlying t=some (.struct fs)) (hp:P.stoodInHeld t=false) (xs ys:Array Value) (w:World):
 (binOp .eql t (.agg xs) (.agg ys)).run P w=((Op.eqFields 9999 xs ys fs.toList).run P w).andThen fun b w'=>.ok (.bool b) w':=by
 have e:P.fieldsOf t=fs:=by unfold Program.fieldsOf;rw[hu]
 rw[run_eql_struct,run_equalIn_struct w 9999 t xs ys (by rw[e];exact hu) hp,e]
theorem QgB {P:Program} {t:TypeId} {fs:Array Field} (hu:P.underlying t=some (.struct fs)) (hp:P.stoodInHeld t=false) (xs ys:Array Value) (w:World):
 (binOp .neq t (.agg xs) (.agg ys)).run P w=((Op.eqFields 9999 xs ys fs.toList).run P w).andThen fun b w'=>.ok (.bool (!b)) w':=by
 have e:P.fieldsOf t=fs:=by unfold Program.fieldsOf;rw[hu]
 rw[run_neq_struct,run_equalIn_struct w 9999 t xs ys (by rw[e];exact hu) hp,e]
theorem QcH {d:Nat} {xs ys:Array Value} (w:World):(Op.eqFields d xs ys []).run Tryz.prog w= .ok true w:=by
 rw[Op.eqFields]
 simp
theorem Blk.cast {w:World} {g:Nat} {t:TypeId} {l l':List Value} (h:Blk w g t l) (e:l=l'):Blk w g t l':=e ▸ h
def subB (bs:List UInt8) (off n:Nat):List UInt8:=(bs.drop off).take n
def putB (bs:List UInt8) (off:Nat) (vs:List UInt8):List UInt8:=bs.take off++vs++bs.drop (off+vs.length)
theorem Qaq {bs:List UInt8} {off n:Nat} (h:off+n≤bs.length):(subB bs off n).length=n:=by
 rw[subB,QC5,QC6]
 omega
theorem Qbp {bs vs:List UInt8} {off:Nat} (h:off+vs.length≤bs.length):(putB bs off vs).length=bs.length:=by
 rw[putB,QCM,QCM,QC5,QC6]
 omega
theorem QcB (bs vs:List UInt8) (off:Nat):Qao (bs.map W8) off (vs.map W8)=(putB bs off vs).map W8:=by
 rw[Qao,putB,QCF,QDq,QDq,QD9,List.map_drop]
theorem QbQ (p q r:List UInt8) (off n:Nat) (hp:p.length=off) (hq:q.length=n):subB (p++(q++r)) off n=q:=by
 rw[subB,QDj hp,QDx hq]
theorem Qjf (q r:List UInt8) (n:Nat) (hq:q.length=n):subB (q++r) 0 n=q:=QbQ [] q r 0 n rfl hq
theorem Ql4 (p q:List UInt8) (off n:Nat) (hp:p.length=off) (hq:q.length=n):subB (p++q) off n=q:=by
 have:=QbQ p q [] off n hp hq
 rwa [QDf]at this
theorem Qoj {bs:List UInt8} {off n j:Nat} {v:UInt8} (h:(subB bs off n)[j]?=some v):bs[off+j]?=some v:=by
 rw[subB,QEm]at h
 split at h
 ·rwa [QDE]at h
 ·cases h
theorem Qca (p q r v:List UInt8) (off:Nat) (hp:p.length=off) (hq:q.length=v.length):putB (p++(q++r)) off v=p++(v++r):=by
 rw[putB,QDx hp,←QD5,QDj hp,QDj hq,QCU]
theorem Qeb (q r v:List UInt8) (hq:q.length=v.length):putB (q++r) 0 v=v++r:=Qca [] q r v 0 rfl hq
theorem Qe4 (p q v:List UInt8) (off:Nat) (hp:p.length=off) (hq:q.length=v.length):putB (p++q) off v=p++v:=by
 have:=Qca p q [] v off hp hq
 rwa [QDf,QDf]at this
theorem Qn4 (bs vs:List UInt8) (h:vs.length=bs.length):putB bs 0 vs=vs:=by
 rw[putB,QEw,QCH,QC4,QDM (by omega),QDf]
theorem Qic {w:World} {g:Nat} {t:TypeId} {bs r:List UInt8} {off n:Nat} (hb:Blk w g t (bs.map W8)) (hr:subB bs off n=r):∀j v,(r.map W8)[j]?=some v→w.cell? ⟨g,off+j,none⟩=some v:=by
 intro j v hv
 rw[QCY,QED]at hv
 obtain⟨x,hx,rfl⟩:=hv
 rw[←hr]at hx
 exact hb.cellD _ (by rw[QCY,Qoj hx];rfl)
theorem QbR {w:World} {g:Nat} {t:TypeId} {bs r:List UInt8} {off n:Nat} (hb:Blk w g t (bs.map W8)) (hr:subB bs off n=r) (hn:r.length=n):RdB w (some ⟨g,off,none⟩) n r:=
 ⟨by rw[QCF,hn],fun _=>⟨g,off,rfl,hb.lt,fun j u hu=>Qic hb hr j u hu⟩⟩
section
variable {P:Program} {ops:Array Oper} {rest:List Oper} {o:Oper} {a:Act} {w:World} {Q:Exit→Act→World→Prop}
theorem QoL (off n:Nat) (hw:Region.wanted o (yielded ops a.tmps)=true) {ty:TypeId} (x:Operand) (ho:o.op= .load ty x) {g:Nat} {t:TypeId} {bs r:List UInt8} (hb:Blk w g t (bs.map W8)) (hx:a.eval x= .pointer (some ⟨g,off,none⟩)) {d:TypeDesc} (hu:P.underlying ty=some d) (hd:QbO d=true)
 (hi:(P.info? ty).map (·.size)=some n) (hr:subB bs off n=r) (hn:r.length=n) (h:wpList P ops Q rest (a.put o.dst (.agg (r.map W8).toArray)) w):wpList P ops Q (o :: rest) a w:=
 Qan hw ty x ho g off (r.map W8) (Qic hb hr) hx d hu hd (by rw[QCF,hn];exact hi) h
theorem QfK (off n:Nat) {K:Act→Prop} {ty:TypeId} (x:Operand) (ho:o.op= .load ty x) {w0:World} {g:Nat} {t:TypeId} {bs r:List UInt8} (hb:Blk w0 g t (bs.map W8)) (hx:a.eval x= .pointer (some ⟨g,off,none⟩)) {d:TypeDesc} (hu:P.underlying ty=some d) (hd:QbO d=true)
 (hi:(P.info? ty).map (·.size)=some n) (hr:subB bs off n=r) (hn:r.length=n) (h:K (a.put o.dst (.agg (r.map W8).toArray))):o.quiet P a (fun w'=>∃x,w'=grow w0 x) K:=
 Qav ty x ho g off (r.map W8) (fun w' hw j v hv=>by obtain⟨y,rfl⟩:=hw;exact Qic (hb.later ⟨y,rfl⟩) hr j v hv) hx d hu hd (by rw[QCF,hn];exact hi) h
theorem QmH (off n:Nat) (hgd:o.guard=none) (hd:o.dst=none) {ty:TypeId} (x y:Operand) (ho:o.op= .store ty x y) {g:Nat} {t:TypeId} {bs vs:List UInt8} (hg:Blk w g t (bs.map W8)) (hx:a.eval x= .pointer (some ⟨g,off,none⟩)) (hy:a.eval y= .agg (vs.map W8).toArray)
 (hi:(P.info? ty).map (·.size)=some n) (hn:vs.length=n) (hfit:off+n≤bs.length) (h:∀w',Blk w' g t ((putB bs off vs).map W8)→Only g w w'→wpList P ops Q rest a w'):wpList P ops Q (o :: rest) a w:=
 Qaf hgd hd ty x y ho g off t _ (vs.map W8) hg hx hy (by rw[QCF,hn];exact hi) (by rw[QCF,QCF];omega) (QaH _) (fun w' hb=>h w' (by rwa [QcB]at hb))
theorem QgT (n:Nat) (hgd:o.guard=none) (hd:o.dst=none) {ty:TypeId} (x y:Operand) (ho:o.op= .store ty x y) {g:Nat} {t:TypeId} {l:List Value} {vs:List UInt8} (hg:Blk w g t l) (hx:a.eval x= .pointer (some ⟨g,0,none⟩)) (hy:a.eval y= .agg (vs.map W8).toArray)
 (hi:(P.info? ty).map (·.size)=some n) (hn:vs.length=n) (hl:l.length=n) (h:∀w',Blk w' g t (vs.map W8)→Only g w w'→wpList P ops Q rest a w'):wpList P ops Q (o :: rest) a w:=
 Qaf hgd hd ty x y ho g 0 t l (vs.map W8) hg hx hy (by rw[QCF,hn];exact hi) (by rw[QCF];omega) (QaH _) (fun w' hb=>h w' (by rwa [Qak _ _ (by rw[QCF];omega)]at hb))
theorem Qlc (off m:Nat) (hgd:o.guard=none) (dd s:Operand) (dT sT:TypeId) (ho:o.op= .call { callee:=.builtin .copy,args:= #[dd,s],argTypes:= #[dT,sT] }) (elem:TypeId) (hu:P.underlying dT=some (.slice elem)) (hsz:(P.info? elem).map (·.size)=some 1)
 {g c:Nat} {t:TypeId} {bs:List UInt8} (hg:Blk w g t (bs.map W8)) {A:Option Addr} {c2:Nat} {vs:List UInt8} (hr:RdB w A m vs) (hd:a.eval dd= .slice (some ⟨g,off,none⟩) m c) (hs:a.eval s= .slice A m c2) (hfit:off+m≤bs.length)
 (h:∀w',Blk w' g t ((putB bs off vs).map W8)→Only g w w'→wpList P ops Q rest (a.put o.dst (.int .i64 ((m:Nat):Int))) w'):wpList P ops Q (o :: rest) a w:=
 Qas hgd dd s dT sT ho elem hu hsz g off m c t _ hg A m c2 (vs.map W8) hr (QaH _) hd hs (by rw[QCF];exact hfit) (fun w' hb ho=>by
  rw[QCQ (by rw[QCF,hr.len];exact QCP _),QcB]at hb
  rw[Nat.min_self]
  exact h w' hb ho)
end
def QfH (bs:List UInt8):List (Nat×List UInt8)→List UInt8
 | []=>bs
 | (off,vs) :: r=>QfH (putB bs off vs) r
theorem Qjn (place:Nat→Option (Nat×Nat)):∀(parts:List (Nat×Nat×List UInt8)) (bs:List UInt8),(∀ p∈parts,place p.1=some (p.2.1,p.2.2.length)∧p.2.1+p.2.2.length≤bs.length)→
 Instr.fill place (bs.map W8).toArray (parts.map fun p=>(p.1,.agg (p.2.2.map W8).toArray))=some ((QfH bs (parts.map fun p=>(p.2.1,p.2.2))).map W8).toArray
 | [],bs,_=>rfl
 | (i,off,vs) :: r,bs,h=>by
   have h0:=h (i,off,vs) (by simp)
   rw[QC9,QaV (vs:=vs.map W8) (off:=off) rfl (by rw[QCF];exact h0.1) (by rw[QCF,QCF];exact h0.2),QcB,Qjn place r (putB bs off vs) fun p hp=>?_]
   ·rfl
   ·have:=h p (by simp[hp])
    rw[Qbp h0.2]
    exact this
theorem QfN {P:Program} {t:TypeId} {n:Nat} {fs:Array Field} {pl:List (Nat×Nat)} (hu:P.underlying t=some (.struct fs)) (hz:(P.info? t).bind (·.zero)=some (.agg (QCC n (W8 0)).toArray))
 (hp:(fs.toList.mapM fun f=>(P.info? f.type).map fun i=>(f.offset,i.size))=some pl) (parts:List (Nat×Nat×List UInt8)) (hpl:∀p∈parts,pl.toArray[p.1]?=some (p.2.1,p.2.2.length)∧p.2.1+p.2.2.length≤n):
 P.built t (parts.map fun p=>(p.1,.agg (p.2.2.map W8).toArray))=some ((QfH (QCC n 0) (parts.map fun p=>(p.2.1,p.2.2))).map W8).toArray:=by
 rw[QaY hu hz hp,show QCC n (W8 0)=(QCC n (0:UInt8)).map W8 by rw[QDi],Qjn _ parts _ (fun p hp=>by rw[QCS];exact hpl p hp)]
structure Bag (w wk:World) (ls:List (Nat×TypeId×List Value)):Prop where
 lat:Later w wk
 blk:∀p∈ls,Blk wk p.1 p.2.1 p.2.2
 low:∀p∈ls,w.heap.size≤p.1
 nd:(ls.map (·.1)).Nodup
section
variable {w wk v v1:World} {ls:List (Nat×TypeId×List Value)} {k:Nat} {t:TypeId} {l l':List Value}
theorem Bag.nth (h:Bag w wk ls) (i:Nat) (hi:ls[i]?=some (k,t,l)):Blk wk k t l:=h.blk (k,t,l) (List.mem_of_getElem? hi)
theorem Bag.at_low (h:Bag w wk ls) (i:Nat) (hi:ls[i]?=some (k,t,l)):w.heap.size≤k:=h.low (k,t,l) (List.mem_of_getElem? hi)
theorem Bag.later (h:Bag w wk ls) (j:Later wk v):Bag w v ls:=⟨h.lat.trans j,fun p hp=>(h.blk p hp).later j,h.low,h.nd⟩
theorem Bag.drew (h:Bag w wk ls):Bag w wk.drew ls:=h.later (Qab _)
theorem Bag.none (w:World):Bag w w []:=⟨Later.refl w,by simp,by simp,by simp⟩
theorem Bag.add (h:Bag w wk ls) (j:Later wk v) (hk:∀p∈ls,k≠p.1) (hl:w.heap.size≤k) (hb:Blk v k t l):Bag w v ((k,t,l) :: ls):=by
 have h1:=h.later j
 refine⟨h1.lat,?_,?_,?_⟩
 ·intro p hp
  rcases QCZ.1 hp with rfl|hp
  ·exact hb
  ·exact h1.blk p hp
 ·intro p hp
  rcases QCZ.1 hp with rfl|hp
  ·exact hl
  ·exact h1.low p hp
 ·rw[QC9,QEI]
  refine⟨fun hm=>?_,h1.nd⟩
  obtain⟨p,hp,e⟩:=QDs.1 hm
  exact hk p hp e.symm
theorem Bag.write (h:Bag w wk ls) (i:Nat) (hi:ls[i]?=some (k,t,l)) (o:Only k wk v) (hb:Blk v k t l'):Bag w v (ls.set i (k,t,l')):=by
 refine⟨h.lat.only o (h.at_low i hi),?_,?_,?_⟩
 ·intro p hp
  obtain⟨j,hj⟩:=List.getElem?_of_mem hp
  rw[List.getElem?_set]at hj
  split at hj
  ·split at hj
   ·cases hj
    exact hb
   ·cases hj
  ·rename_i hne
   refine (h.blk p (List.mem_of_getElem? hj)).only o ?_
   intro e
   have h1:(ls.map (·.1))[i]?=some k:=by rw[QCY,hi];rfl
   have h2:(ls.map (·.1))[j]?=some k:=by rw[QCY,hj,←e];rfl
   have hlt:i<(ls.map (·.1)).length:=(QCV.1 h1).1
   exact hne ((List.getElem?_inj hlt h.nd).1 (h1.trans h2.symm))
 ·intro p hp
  rcases List.mem_or_eq_of_mem_set hp with hp|rfl
  ·exact h.low p hp
  ·exact h.at_low i hi
 ·have:(ls.set i (k,t,l')).map (·.1)=ls.map (·.1):=by
   rw[QE3]
   apply List.ext_getElem?
   intro j
   rw[List.getElem?_set]
   split
   ·rename_i e
    subst e
    split
    ·rw[QCY,hi];rfl
    ·rename_i hlt
     rw[QDV (by omega)]
   ·rfl
  rw[this]
  exact h.nd
theorem Bag.push (h:Bag w wk ls) (j:Later wk v) (hk:wk.heap.size≤k) (o:Only k v v1) (hb:Blk v1 k t l):Bag w v1 ((k,t,l) :: ls):=by
 have h0:∀p∈ls,k≠p.1:=fun p hp e=>by have:=(h.blk p hp).lt;omega
 have hw:w.heap.size≤k:=by have:=h.lat.size;omega
 have h1:=h.later j
 refine⟨h1.lat.only o hw,?_,?_,?_⟩
 ·intro p hp
  rcases QCZ.1 hp with rfl|hp
  ·exact hb
  ·exact (h1.blk p hp).only o (fun e=>h0 p hp e.symm)
 ·intro p hp
  rcases QCZ.1 hp with rfl|hp
  ·exact hw
  ·exact h1.low p hp
 ·rw[QC9,QEI]
  refine⟨fun hm=>?_,h1.nd⟩
  obtain⟨p,hp,e⟩:=QDs.1 hm
  exact h0 p hp e.symm
theorem Bag.ne {p q:Nat×TypeId×List Value} (h:Bag w wk ls) (i j:Nat) (hi:ls[i]?=some p) (hj:ls[j]?=some q) (hij:i≠j):p.1≠q.1:=by
 intro e
 have h1:(ls.map (·.1))[i]?=some p.1:=by rw[QCY,hi];rfl
 have h2:(ls.map (·.1))[j]?=some p.1:=by rw[QCY,hj,e];rfl
 have hlt:i<(ls.map (·.1)).length:=(QCV.1 h1).1
 exact hij ((List.getElem?_inj hlt h.nd).1 (h1.trans h2.symm))
theorem Bag.drop (h:Bag w wk ls) (n:Nat):Bag w wk (ls.drop n):=
 ⟨h.lat,fun p hp=>h.blk p (List.mem_of_mem_drop hp),fun p hp=>h.low p (List.mem_of_mem_drop hp),by rw[List.map_drop];exact (List.drop_sublist n _).nodup h.nd⟩
end
theorem QaW (w:World) (t:TypeId) (l:List Value):Bag w (w.alloc (.cells l.toArray t)) [(w.heap.size,t,l)]:=
 ⟨Qaa _ _,by intro p hp;simp at hp;subst hp;exact Blk.new w t l,by simp,by simp⟩
section
variable {α:Type}
theorem Qbk {F:α→List Value} {sz:Nat} (hF:∀x,(F x).length=sz):∀xs:List α,(xs.flatMap F).length=xs.length*sz
 | []=>by simp
 | x :: xs=>by rw[QEi,QCM,hF,Qbk hF xs,QDp,QEX];omega
theorem Qe3 {F:α→List Value} {sz:Nat} (hF:∀x,(F x).length=sz) (d:α) {i:Nat} {v:Value}:∀(xs:List α) (j:Nat),j<xs.length→(F (xs.getD j d))[i]?=some v→(xs.flatMap F)[j*sz+i]?=some v
 | [],j,hj,_=>by simp at hj
 | x :: xs,0,_,hv=>by
   have hv':(F x)[i]?=some v:=by simpa using hv
   have hi:i<(F x).length:=(QCV.1 hv').1
   rw[QEi,QEA,QC4,QCW hi]
   exact hv'
 | x :: xs,j+1,hj,hv=>by
   rw[QEi,QCR (by rw[hF,QEX];omega),hF]
   have:=Qe3 hF d (i:=i) xs j (by simpa using hj) (by simpa using hv)
   rw[show (j+1)*sz+i-sz=j*sz+i by rw[QEX];omega]
   exact this
theorem Qur {F:α→List Value} {sz:Nat} (hF:∀x,(F x).length=sz) (d:α) (h0:0<sz) {q:Nat} {v:Value} {xs:List α} (h:(xs.flatMap F)[q]?=some v):q/sz<xs.length∧(F (xs.getD (q/sz) d))[q%sz]?=some v:=by
 have hq:q<xs.length*sz:=by
  have:=(QCV.1 h).1
  rwa [Qbk hF]at this
 have hj:q/sz<xs.length:=(Nat.div_lt_iff_lt_mul h0).2 hq
 refine⟨hj,?_⟩
 have hr:q%sz<(F (xs.getD (q/sz) d)).length:=by rw[hF];exact QC8 _ h0
 have e:=Qe3 hF d xs (q/sz) hj (QCJ hr)
 rw[show q/sz*sz+q%sz=q by rw[QDD];exact QDA q sz,h]at e
 rw[QCJ hr,←Option.some.inj e]
theorem Qio {F:α→List Value} {sz:Nat} (hF:∀x,(F x).length=sz) (d:α) {off:Nat} {vs:List Value} {y:α}:∀(xs:List α) (j:Nat),j<xs.length→off+vs.length≤sz→F y=Qao (F (xs.getD j d)) off vs→Qao (xs.flatMap F) (j*sz+off) vs=(xs.set j y).flatMap F
 | [],j,hj,_,_=>by simp at hj
 | x :: xs,0,_,ho,hy=>by
   have hx:=hF x
   rw[QCN,QEi,QEi,hy,QEA,QC4]
   simp only[Qao,List.getD_cons_zero]
   rw[QDo (by omega),QDN (by omega)]
   simp only[QCU]
 | x :: xs,j+1,hj,ho,hy=>by
   have ih:=Qio hF d (off:=off) (vs:=vs) (y:=y) xs j (by simpa using hj) ho (by simpa using hy)
   rw[QCO,QEi,QEi,←ih]
   have hx:=hF x
   simp only[Qao]
   rw[List.take_append,QET,QCQ (by rw[hx,QEX];omega),QEc (by rw[hx,QEX];omega),hx,show (j+1)*sz+off-sz=j*sz+off by rw[QEX];omega,show (j+1)*sz+off+vs.length-sz=j*sz+off+vs.length by rw[QEX];omega]
   simp only[QCH,QCU]
theorem QhI (l:List Value) (i:Nat) (v:Value) (h:i<l.length):Qao l i [v]=l.set i v:=by
 rw[Qao,List.set_eq_take_append_cons_drop,if_pos h]
 simp
def RdF (F:α→List Value) (sz:Nat) (d:α) (w:World) (A:Option Addr) (n:Nat) (xs:List α):Prop:=
 xs.length=n∧(0<n→∃b o,A=some ⟨b,o,none⟩∧b<w.heap.size∧∀j i v,j<n→(F (xs.getD j d))[i]?=some v→w.cell? ⟨b,o+j*sz+i,none⟩=some v)
variable {F:α→List Value} {sz:Nat} {d:α} {w w':World} {A:Option Addr} {n:Nat} {xs:List α}
theorem RdF.later (h:RdF F sz d w A n xs) (hl:Later w w'):RdF F sz d w' A n xs:=by
 refine⟨h.1,fun hn=>?_⟩
 obtain⟨b,o,hA,hb,hc⟩:=h.2 hn
 exact⟨b,o,hA,QCX hb hl.size,fun j i v hj hv=>(hl.below.cell (p:=⟨b,o+j*sz+i,none⟩) hb).trans (hc j i v hj hv)⟩
theorem QoU (w:World):RdF F sz d w none 0 []:=⟨rfl,fun h=>absurd h (by omega)⟩
theorem RdF.at_ (h:RdF F sz d w A n xs) {k:Nat} (hk:k<n):
 ∃b o,A=some ⟨b,o,none⟩∧b<w.heap.size∧∀i v,(F (xs.getD k d))[i]?=some v→w.cell? ⟨b,o+k*sz+i,none⟩=some v:=by
 obtain⟨b,o,hA,hb,hc⟩:=h.2 (by omega)
 exact⟨b,o,hA,hb,fun i v hv=>hc k i v hk hv⟩
theorem RdF.cells (hF:∀x,(F x).length=sz) (h0:0<sz) {ad:Addr} (h:RdF F sz d w (some ad) n xs):∀q v,(xs.flatMap F)[q]?=some v→w.cell? (ad.add q)=some v:=by
 intro q v hv
 obtain⟨hj,hi⟩:=Qur hF d h0 hv
 rw[h.1]at hj
 obtain⟨b,o,hA,_,hc⟩:=h.2 (QD6 (Nat.zero_le _) hj)
 obtain rfl:ad=⟨b,o,none⟩:=by simpa using hA
 rw[QcK]
 have:=hc _ _ _ hj hi
 rwa [Nat.add_assoc,show q/sz*sz+q%sz=q by rw[QDD];exact QDA q sz]at this
theorem Qmo (hF:∀x,(F x).length=sz) {base c:Nat} {e:TypeId} (h:w.ownsRow base e sz (.slice A n c) n (xs.flatMap F)) (hn:xs.length=n):RdF F sz d w A n xs:=by
 refine⟨hn,fun h0=>?_⟩
 rcases h.2 with ⟨_,hz⟩|⟨g,cap,cur,hvv,hb,hh,hnc,hm,hs,ht⟩
 ·omega
 ·cases hvv
  refine⟨g,0,rfl,(h.lt g rfl).2,fun j i v hj hv=>?_⟩
  have hg:=h.cells (g:=g) rfl (j*sz+i) v (Qe3 hF d xs j (by omega) hv)
  rw[QcK]at hg
  rw[QC4]at hg ⊢
  exact hg
theorem Qmu (hF:∀x,(F x).length=sz) {g:Nat} {t:TypeId} (h:Blk w g t (xs.flatMap F)) (hn:xs.length=n):RdF F sz d w (some ⟨g,0,none⟩) n xs:=by
 refine⟨hn,fun _=>⟨g,0,rfl,h.lt,fun j i v hj hv=>?_⟩⟩
 rw[QC4]
 exact h.cellD _ (Qe3 hF d xs j (by omega) hv)
theorem Qpa {base:Nat} {e:TypeId} {v:Value} {vs:List Value} (h:w.ownsRow base e sz v n vs):∃A c,v= .slice A n c∧n≤c:=by
 rcases h.2 with ⟨rfl,rfl⟩|⟨g,cap,cur,rfl,_,_,hnc,_⟩
 ·exact⟨none,0,rfl,QCP _⟩
 ·exact⟨_,_,rfl,hnc⟩
theorem Qg0 {base:Nat} {e:TypeId} {v:Value} {vs:List Value} (h:w.ownsRow base e sz v n vs) (hl:Later w w'):w'.ownsRow base e sz v n vs:=
 h.kept (row:=none) ⟨hl.below.os,hl.below.tape,hl.below.output,hl.size,fun k hk _=>hl.below.block k hk⟩ (by cases v.ownBlock<;>simp)
theorem Qs0 (hF:∀x,(F x).length=sz) (h0:0<sz) (d:α) (n:Nat):madeCells (F d).toArray (n*sz)=((QCC n d).flatMap F).toArray:=by
 have hl:=Qbk hF (QCC n d)
 rw[QCS]at hl
 apply Array.ext
 ·simp[madeCells,hl]
 ·intro i h1 h2
  have hi:i<n*sz:=by simpa [madeCells] using h1
  have hj:i/sz<n:=(Nat.div_lt_iff_lt_mul h0).2 hi
  have hr:i%sz<(F d).length:=by rw[hF];exact QC8 _ h0
  have hg:(QCC n d).getD (i/sz) d=d:=by rw[QCK,QEj,if_pos hj];rfl
  have e:=Qe3 hF d (QCC n d) (i/sz) (by rw[QCS];exact hj) (by rw[hg];exact QCJ hr)
  rw[show i/sz*sz+i%sz=i by rw[QDD];exact QDA i sz]at e
  have e2:=(QCV.1 e).2
  simp only[madeCells,Array.getElem_map,Array.getElem_range,List.getElem_toArray,List.size_toArray,hF]
  rw[e2]
  rw[getElem!_pos _ _ (by rw[List.size_toArray];exact hr)]
  rfl
end
section
variable {P:Program} {ops:Array Oper} {rest:List Oper} {o:Oper} {a:Act} {w:World} {Q:Exit→Act→World→Prop} {α:Type} {F:α→List Value} {sz:Nat} {d:α}
theorem QhU (hF:∀x,(F x).length=sz) (hF1:∀x,∀u∈F x,u.oneCell'=true) (h0:0<sz) (hgd:o.guard=none) (s x:Operand) (t:TypeId) (ho:o.op= .call { callee:=.builtin .append,args:= #[s,x],argTypes:= #[t,t] })
 (e:TypeId) (z:Value) (bytes:Nat) (ht:P.underlying t=some (.slice e)) (hinfo:(P.info? e).map (fun i=>(i.zero,i.size,i.bytes))=some (some z,sz,bytes)) (hzs:z.cells.size=sz)
 (w0:World) (v:Value) (n:Nat) (vs:List Value) (hown:w.ownsRow w0.heap.size e sz v n vs) (hl:Later w0 w)
 (A:Option Addr) (m c:Nat) (xs:List α) (hr:RdF F sz d w A m xs) (hs:a.eval s=v) (hx:a.eval x= .slice A m c) (hsz:(n+m)*bytes≤140737488355328) (hby:0<bytes)
 (h:∀A' c' w',w'.ownsRow w0.heap.size e sz (.slice A' (n+m) c') (n+m) (vs++xs.flatMap F)→Later w0 w'→w.grownBy w' v.ownBlock→wpList P ops Q rest (a.put o.dst (.slice A' (n+m) c')) w'):
 wpList P ops Q (o :: rest) a w:=by
 obtain⟨i,hi,hz,hsize,hbytes⟩:=info_parts hinfo
 have hnm:n+m≤140737488355328:=QDm (QDO _ hby) hsz
 have hmax:n+m≤maxLen:=by unfold maxLen;omega
 have hfin:∀v' w',(Builtin.append_ #[t,t] o.type #[v,.slice A m c]).run P w= .ok v' w'→w'.ownsRow w0.heap.size e sz v' (n+m) (vs++xs.flatMap F)→w.grownBy w' v.ownBlock→wpList P ops Q (o :: rest) a w:=by
  intro v' w' hrun hown' hg
  refine wpList_plain hgd fun K hK=>?_
  unfold Oper.wp execOp
  simp only[ho,resolve,invoke,builtin,Sem.run_bind,Sem.run_pure,Result.andThen_ok,QCT,QC9,QC3,hs,hx,hrun]
  have hlat:Later w0 w':=hl.grownBy hg (fun k hk=>(hown.lt k hk).1)
  obtain⟨A',c',rfl,_⟩:=Qpa hown'
  exact hK _ _ (h A' c' w' hown' hlat hg)
 have hlen:(xs.flatMap F).length=m*sz:=by rw[Qbk hF,hr.1]
 cases A with
 | some ad=>
   have h1:∀u∈xs.flatMap F,u.oneCell'=true:=by
    intro u hu
    obtain⟨x,_,hx⟩:=List.mem_flatMap.1 hu
    exact hF1 x u hx
   obtain⟨v',w',hrun,h2,h3,_⟩:=run_append_own (P:=P) w w0.heap.size t o.type e i z sz bytes ht hi hz hsize hbytes hzs h0 v n vs hown ad m c _ hlen (hr.cells hF h0) h1 hmax hsz hl.size
   exact hfin v' w' hrun h2 h3
 | none=>
   have hm:m=0:=by
    rcases Nat.eq_zero_or_pos m with h0|h0
    ·exact h0
    ·obtain⟨b,off,hA,_⟩:=hr.2 h0
     cases hA
   subst hm
   have hn:xs=[]:=QDk hr.1
   subst hn
   have hrun:(Builtin.append_ #[t,t] o.type #[v,.slice none 0 c]).run P w= .ok v w:=by
    rcases hown.2 with ⟨rfl,rfl⟩|⟨g,cap,cur,rfl,_,_,hnc,_⟩
    ·simp[Builtin.append_,run_underlying ht,sizeOf,typeInfo,hi,Builtin.lenOf,Builtin.firstCells]
    ·simp[Builtin.append_,run_underlying ht,sizeOf,typeInfo,hi,Builtin.lenOf,Builtin.firstCells,hnc,storeCells]
   exact hfin v w hrun (by simpa using hown) (World.grownBy.refl w _)
theorem Qey (hF:∀x,(F x).length=sz) (h0:0<sz) (d:α) (hgd:o.guard=none) (l c:Operand) (t:TypeId) (ho:o.op=Op.makeSlice t l c) (e:TypeId) (bytes:Nat) (ht:P.underlying t=some (.slice e))
 (hinfo:(P.info? e).map (fun i=>(i.zero,i.size,i.bytes))=some (some (.agg (F d).toArray),sz,bytes)) (kl kc:IntKind) (L C:Int) (n:Nat) (hl:a.eval l= .int kl L) (hc:a.eval c= .int kc C) (hL:L=(n:Int)) (hC:C=(n:Int))
 (hby:0<bytes) (hsz:n*bytes≤140737488355328) (h:∀w',Blk w' w.heap.size e ((QCC n d).flatMap F)→Later w w'→wpList P ops Q rest (a.put o.dst (.slice (some ⟨w.heap.size,0,none⟩) n n)) w'):
 wpList P ops Q (o :: rest) a w:=by
 obtain⟨i,hi,hz,hsize,hbytes⟩:=info_parts hinfo
 have hn:n≤140737488355328:=QDm (QDO _ hby) hsz
 refine wpList_plain hgd fun K hK=>?_
 have hb:((i.bytes:Int)*(n:Int))≤281474976710656:=by
  rw[hbytes,←QEp,QDD]
  omega
 have hr:=run_make (P:=P) w t e i _ ht hi hz kl kc n n (by omega) (Int.le_refl _) hb (by omega)
 have hcells:(Value.agg (F d).toArray).cells=(F d).toArray:=rfl
 simp only[QEv,hsize,hcells,Qs0 hF h0 d]at hr
 subst hL
 subst hC
 unfold Oper.wp
 simp only[execOp,ho,hl,hc,Sem.run_bind,hr,Result.andThen_ok,Sem.run_pure]
 exact hK _ _ (h _ (Blk.new w e _) (Qaa _ _))
end
section
variable {P:Program}
theorem Qi5 {t e:TypeId} {sz:Nat} {z v:Value} {vs:List Value} (ht:P.underlying t=some (.slice e)) (hz:(P.info? e).map (fun i=>(i.zero,i.size))=some (some z,sz)) (hs0:0<sz) (hsm:sz≤65536) (hv:v.cells=vs.toArray) (hvl:vs.length=sz) (w:World):
 (Instr.buildSlice t 1 #[(0,v)]).run P w= .ok (.slice (some ⟨w.heap.size,0,none⟩) 1 1) (w.alloc (.cells vs.toArray e)):=by
 cases hi:P.info? e with
 | none=>simp[hi]at hz
 | some i=>
   simp only[hi,QEd,Option.some.injEq,Prod.mk.injEq]at hz
   obtain⟨h1,h2⟩:=hz
   have hso:(sizeOf e).run P w= .ok sz w:=by simp[sizeOf,typeInfo,hi,h2]
   have hzv:(zeroValue e).run P w= .ok z w:=by simp[zeroValue,typeInfo,hi,h1]
   have hl:((Array.range (1*sz)).map fun x=>z.cells[x%z.cells.size]!)=((Array.range (1*sz)).map fun x=>z.cells[x%z.cells.size]!).toList.toArray:=rfl
   have hll:((Array.range (1*sz)).map fun x=>z.cells[x%z.cells.size]!).toList.length=sz:=by simp
   have hf:Instr.fill (fun i=>some (i*sz,sz)) ((Array.range (1*sz)).map fun x=>z.cells[x%z.cells.size]!) [(0,v)]=some vs.toArray:=by
    rw[hl]
    rw[QaV (vs:=vs) (off:=0) hv (by rw[hvl,QEA]) (by rw[hll];omega),Qb7,Qak _ _ (by rw[hll,hvl])]
   unfold Instr.buildSlice
   simp only[Sem.run_bind,run_underlying ht,Result.andThen_ok,hso,Nat.one_mul]
   rw[if_neg (by omega),if_neg (by omega)]
   simp only[Nat.one_mul]at hf
   simp only[Sem.run_bind,hzv,Result.andThen_ok,Sem.run_pure,hf]
   simp[newRow]
end
section
variable {P:Program} {ops:Array Oper} {rest:List Oper} {o:Oper} {a:Act} {w:World} {Q:Exit→Act→World→Prop}
theorem QlW (hw:Region.wanted o (yielded ops a.tmps)=true) (t:TypeId) (x:Operand) (ho:o.op= .buildSlice t 1 #[(0,x)]) (e:TypeId) (sz:Nat) (z:Value) (bs:List UInt8) (ht:P.underlying t=some (.slice e)) (hz:(P.info? e).map (fun i=>(i.zero,i.size))=some (some z,sz)) (hs0:0<sz) (hsm:sz≤65536)
 (hbl:bs.length=sz) (hx:a.eval x= .agg (bs.map W8).toArray)
 (h:wpList P ops Q rest (a.put o.dst (.slice (some ⟨w.heap.size,0,none⟩) 1 1)) (w.alloc (.cells (bs.map W8).toArray e))):wpList P ops Q (o :: rest) a w:=
 BigFrame.wpList_want hw fun K hK=>by
  have hr:=Qi5 (v:=.agg (bs.map W8).toArray) ht hz hs0 hsm rfl (by rw[QCF,hbl]) w
  unfold Oper.wp
  simp only[execOp,ho,QCT,QC9,QC3,hx,Sem.run_bind,hr,Result.andThen_ok,Sem.run_pure]
  exact hK _ _ h
end
def RdK (sz:Nat) (w:World) (A:Option Addr) (n:Nat) (xs:List (List UInt8)):Prop:=
 xs.length=n∧(0<n→∃b o,A=some ⟨b,o,none⟩∧b<w.heap.size∧∀j i v,j<n→((xs.getD j []).map W8)[i]?=some v→w.cell? ⟨b,o+j*sz+i,none⟩=some v)
theorem RdK.later {sz:Nat} {w w':World} {A:Option Addr} {n:Nat} {xs:List (List UInt8)} (h:RdK sz w A n xs) (hl:Later w w'):RdK sz w' A n xs:=by
 refine⟨h.1,fun hn=>?_⟩
 obtain⟨b,o,hA,hb,hc⟩:=h.2 hn
 exact⟨b,o,hA,QCX hb hl.size,fun j i v hj hv=>(hl.below.cell (p:=⟨b,o+j*sz+i,none⟩) hb).trans (hc j i v hj hv)⟩
theorem Ql8 {sz i:Nat} {v:UInt8}:∀(xs:List (List UInt8)) (j:Nat),(∀ x∈xs,x.length=sz)→j<xs.length→(xs.getD j [])[i]?=some v→xs.flatten[j*sz+i]?=some v
 | [],j,_,h,_=>by simp at h
 | x :: xs,j,hl,hj,hv=>by
   have hx:=hl x (by simp)
   cases j with
   | zero=>
     have hv':x[i]?=some v:=by simpa using hv
     have hi:i<x.length:=(QCV.1 hv').1
     rw[QDU,QEA,QC4,QCW hi]
     exact hv'
   | succ j=>
     rw[QDU,QCR (by rw[hx,QEX];omega),hx]
     have:=Ql8 (sz:=sz) (i:=i) xs j (fun y hy=>hl y (by simp[hy])) (by simpa using hj) (by simpa using hv)
     rw[show (j+1)*sz+i-sz=j*sz+i by rw[QEX];omega]
     exact this
theorem QrV {sz:Nat} {w:World} {base:Nat} {e:TypeId} {A:Option Addr} {n c:Nat} {xs:List (List UInt8)} (h:w.ownsRow base e sz (.slice A n c) n (xs.flatten.map W8)) (hn:xs.length=n) (hl:∀x∈xs,x.length=sz):RdK sz w A n xs:=by
 refine⟨hn,fun h0=>?_⟩
 rcases h.2 with ⟨_,hz⟩|⟨g,cap,cur,hvv,hb,hh,hnc,hm,hs,ht⟩
 ·omega
 ·cases hvv
  refine⟨g,0,rfl,(h.lt g rfl).2,fun j i v hj hv=>?_⟩
  rw[QCY,QED]at hv
  obtain⟨x,hx,rfl⟩:=hv
  have hg:=h.cells (g:=g) rfl (j*sz+i) (W8 x) (by rw[QCY,Ql8 xs j hl (by omega) hx];rfl)
  rw[QcK]at hg
  rw[QC4]at hg ⊢
  exact hg
theorem RdK.at_ {sz:Nat} {w:World} {A:Option Addr} {n:Nat} {xs:List (List UInt8)} (h:RdK sz w A n xs) {k:Nat} (hk:k<n):
 ∃b o,A=some ⟨b,o,none⟩∧b<w.heap.size∧∀j v,((xs.getD k []).map W8)[j]?=some v→w.cell? ⟨b,o+k*sz+j,none⟩=some v:=by
 obtain⟨b,o,hA,hb,hc⟩:=h.2 (by omega)
 exact⟨b,o,hA,hb,fun j v hv=>hc k j v hk hv⟩
theorem RdK.sub {sz:Nat} {w:World} {A:Option Addr} {n:Nat} {xs:List (List UInt8)} (h:RdK sz w A n xs) {k:Nat} (hk:k<n):
 ∃b o,A=some ⟨b,o,none⟩∧b<w.heap.size∧∀(w':World),Later w w'→∀(off m:Nat) (r:List UInt8),subB (xs.getD k []) off m=r→∀j v,(r.map W8)[j]?=some v→w'.cell? ⟨b,o+k*sz+off+j,none⟩=some v:=by
 obtain⟨b,o,hA,hb,hc⟩:=h.2 (by omega)
 refine⟨b,o,hA,hb,fun w' hl off m r hr j v hv=>?_⟩
 rw[QCY,QED]at hv
 obtain⟨x,hx,rfl⟩:=hv
 rw[←hr]at hx
 refine (hl.below.cell (p:=⟨b,o+k*sz+off+j,none⟩) hb).trans ?_
 have:=hc k (off+j) (W8 x) hk (by rw[QCY,Qoj hx];rfl)
 rwa [←Nat.add_assoc]at this
theorem Qg2 {w:World} {base:Nat} {e:TypeId} {sz:Nat} {v:Value} {n:Nat} {vs:List Value} (h:w.ownsRow base e sz v n vs):∃A c,v= .slice A n c∧n≤c:=by
 rcases h.2 with ⟨rfl,rfl⟩|⟨g,cap,cur,rfl,_,_,hnc,_⟩
 ·exact⟨none,0,rfl,QCP _⟩
 ·exact⟨_,_,rfl,hnc⟩
theorem QcW {w w':World} {base:Nat} {e:TypeId} {sz:Nat} {v:Value} {n:Nat} {vs:List Value} (h:w.ownsRow base e sz v n vs) (hl:Later w w'):w'.ownsRow base e sz v n vs:=
 h.kept (row:=none) ⟨hl.below.os,hl.below.tape,hl.below.output,hl.size,fun k hk _=>hl.below.block k hk⟩ (by cases v.ownBlock<;>simp)
theorem Qt9 {w:World} {base g:Nat} {e:TypeId} {sz N:Nat} {l:List Value} (h:Blk w g e l) (hb:base≤g) (hl:l.length=N*sz) (hm:N≤maxLen):w.ownsRow base e sz (.slice (some ⟨g,0,none⟩) 0 N) 0 []:=
 ⟨by simp,.inr ⟨g,N,l.toArray,rfl,hb,h,Nat.zero_le _,hm,by simp[hl],by simp⟩⟩
theorem Qek {w w':World} {base g sz:Nat} {e t:TypeId} {v:Value} {n:Nat} {vs l:List Value} (hb:Blk w g t l) (h:w.ownsRow base e sz v n vs) (hne:t≠e) (hg:w.grownBy w' v.ownBlock):Blk w' g t l:=by
 refine (hg.block g hb.lt ?_).trans hb
 rcases h.2 with ⟨rfl,_⟩|⟨g2,c2,cur2,rfl,_,hh2,_⟩
 ·simp[Value.ownBlock]
 ·intro he
  simp only[Value.ownBlock,Option.some.injEq]at he
  subst he
  exact hb.ne_type (l':=cur2.toList) (t':=e) hh2 hne rfl
theorem QdA {w w':World} {base k sz:Nat} {e t:TypeId} {v:Value} {n:Nat} {vs l:List Value} (h:w.ownsRow base e sz v n vs) (hb:Blk w k t l) (hne:t≠e) (ho:Only k w w'):w'.ownsRow base e sz v n vs:=by
 refine h.kept ho ?_
 rcases h.2 with ⟨rfl,_⟩|⟨g2,c2,cur2,rfl,_,hh2,_⟩
 ·exact .inl rfl
 ·refine .inr fun he=>?_
  simp only[Value.ownBlock,Option.some.injEq]at he
  subst he
  exact hb.ne_type (l':=cur2.toList) (t':=e) hh2 hne rfl
theorem QgQ {w w':World} {b1 b2 s1 s2:Nat} {e1 e2:TypeId} {v1 v2:Value} {n1 n2:Nat} {x1 x2:List Value} (h1:w.ownsRow b1 e1 s1 v1 n1 x1) (h2:w.ownsRow b2 e2 s2 v2 n2 x2) (hne:e1≠e2) (hg:w.grownBy w' v2.ownBlock):
 w'.ownsRow b1 e1 s1 v1 n1 x1:=by
 refine h1.kept hg ?_
 rcases h1.2 with ⟨rfl,_⟩|⟨g1,c1,cur1,rfl,_,hh1,_⟩
 ·exact .inl rfl
 ·right
  rcases h2.2 with ⟨rfl,_⟩|⟨g2,c2,cur2,rfl,_,hh2,_⟩
  ·simp[Value.ownBlock]
  ·intro hb
   simp only[Value.ownBlock,Option.some.injEq]at hb
   subst hb
   rw[hh1]at hh2
   injection hh2 with hh2
   injection hh2 with _ h
   exact hne h
theorem Bag.grown {w wk v':World} {ls:List (Nat×TypeId×List Value)} {base sz:Nat} {e:TypeId} {v:Value} {n:Nat} {vs:List Value} (h:Bag w wk ls) (hown:wk.ownsRow base e sz v n vs) (hne:∀p∈ls,p.2.1≠e) (hb:w.heap.size≤base) (hg:wk.grownBy v' v.ownBlock):Bag w v' ls:=
 ⟨h.lat.grownBy hg (fun k hk=>QDm hb (hown.lt k hk).1),fun p hp=>Qek (h.blk p hp) hown (hne p hp) hg,h.low,h.nd⟩
end Go.Proofs.YticcbmhcgmhohaaGreat
