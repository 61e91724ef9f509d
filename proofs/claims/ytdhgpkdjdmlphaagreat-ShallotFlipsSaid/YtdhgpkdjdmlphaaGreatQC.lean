/-
  Lemmas for the last text of this claim (part 3 of 20).
-/
import Derived.ArgAppend
import Derived.BigQuiet
import Derived.BigRegion
import Derived.ChangeOld
import Derived.Deep.RegionWith
import Derived.DeepKeys4
import Derived.JoinedCond
import Derived.LaidMore
import Derived.Laws.BytesArg
import Derived.Laws.CopyOwn
import Derived.Laws.Externs
import Derived.Laws.IdiomStrings
import Derived.Laws.Tables
import Derived.Lib.AppendStr
import Derived.Lib.AppendZerosOnto
import Derived.Lib.Mul64
import Derived.Lib.SlBytesConst
import Derived.LoopN
import Derived.Maps.OwnSet
import Derived.OpenShut
import Derived.OrdersHeld
import Derived.ProofKit
import Derived.Shelf.Spec.BitsCarry
import Derived.ShutString
import Derived.Test.YtdhgpkdjdmlphaaGreatProg
import Derived.Test.YtdhgpkdjdmlphaaGreatRows
import Derived.WalkKit
import Derived.WalkLawsBesides
import Derived.WalkSpells
import Derived.Test.YtdhgpkdjdmlphaaGreatQB
open Int renaming natCast_mul → QEn, toNat_natCast → QEv
open List renaming replicate → QCA, length_map → QCE, cons_append → QCF, nil_append → QCG, getElem?_eq_getElem → QCH, getD_eq_getElem?_getD → QCI, setIfInBounds_toArray → QCJ, length_append → QCK, length_replicate → QCM, set_cons_zero → QCN, set_cons_succ → QCO, take_of_length_le → QCP, getElem?_append_right → QCQ, append_assoc → QCR, getElem?_map → QCS, getElem?_eq_some_iff → QCT, getElem?_append_left → QCU, map_toArray → QCW, mem_cons → QCX, length_take → QC1, map_nil → QC2, length_drop → QC3, map_cons → QC7, take_succ_eq_append_getElem → QC8, append_nil → QDf, map_replicate → QDg, map_append → QDh, eq_nil_of_length_eq_zero → QDj, take_append_of_le_length → QDk, drop_left' → QDn, mem_map → QDt, length_cons → QDu, drop_append_of_le_length → QDH, drop_of_length_le → QDL, flatten_cons → QDN, getElem?_drop → QDP, getElem?_eq_none → QDQ, take_left' → QDY, map_take → QD1, flatMap_cons → QEd, getElem?_replicate → QEe, getElem?_take → QEh, drop_eq_nil_of_le → QEj, drop_drop → QEo, nodup_cons → QED, take_zero → QET, map_set → QEU
open Nat renaming le_refl → QCL, lt_of_lt_of_le → QC0, mod_lt → QC4, zero_add → QC6, le_trans → QDl, div_add_mod → QDw, lt_or_ge → QDC, mul_comm → QDE, le_mul_of_pos_right → QDI, lt_of_le_of_lt → QD0, zero_mul → QEO, add_mul → QER
open Option renaming map_eq_some_iff → QD5, map_some → QEm
set_option linter.all false
namespace Go.Proofs.YtdhgpkdjdmlphaaGreat
open Go.RowKit
theorem Qfl:∀(vs:List Value) (k off:Nat) (cells:List Value),off+vs.length≤cells.length→
 (vs.zipIdx k).foldl (fun (cs:Array Value) (x:Value×Nat)=>cs.setIfInBounds (off-k+x.2) x.1) cells.toArray=(Qaq cells off vs).toArray∨off<k
 | [],k,off,cells,_=>.inl (by simp[Qaq])
 | v :: vs,k,off,cells,h=>by
   rcases QDC off k with hk|hk
   ·exact .inr hk
   left
   simp only[QDu]at h
   have ih:=Qfl vs (k+1) (off+1) (cells.set off v) (by simp;omega)
   rcases ih with ih|ih
   ·rw[List.zipIdx_cons,List.foldl_cons,show off-k+k=off by omega]
    simp only[QCJ]
    rw[show off+1-(k+1)=off-k by omega]at ih
    rw[ih]
    congr 1
    rw[Qaq,Qaq,QC8 (by simp;omega),List.drop_set_of_lt (by omega)]
    simp only[List.take_set_of_le (QCL off),List.getElem_set_self,QCR,QCF,QCG,QDu,show off+1+vs.length=off+(vs.length+1) by omega]
   ·omega
theorem QpF (vs cells:List Value) (off:Nat) (h:off+vs.length≤cells.length):
 vs.toArray.zipIdx.foldl (fun (cs:Array Value) (x:Value×Nat)=>cs.setIfInBounds (off+x.2) x.1) cells.toArray=(Qaq cells off vs).toArray:=by
 rcases Qfl vs 0 off cells h with h|h
 ·rw[←Array.foldl_toList,Array.toList_zipIdx]
  simpa using h
 ·omega
theorem QbD {P:Program} {t:TypeId} {zs:List Value} {fs:Array Field} {pl:List (Nat×Nat)} (hu:P.underlying t=some (.struct fs)) (hz:(P.info? t).bind (·.zero)=some (.agg zs.toArray))
 (hp:(fs.toList.mapM fun f=>(P.info? f.type).map fun i=>(f.offset,i.size))=some pl) (parts:List (Nat×Value)):P.built t parts=Instr.fill (pl.toArray[·]?) zs.toArray parts:=by
 cases hq:P.info? t with
 | none=>simp[hq]at hz
 | some it=>
   have hz':it.zero=some (.agg zs.toArray):=by simpa [hq] using hz
   have hc2:(Value.agg zs.toArray).cells=zs.toArray:=rfl
   unfold Program.built
   rw[hq,hu]
   simp only[hz',hp,hc2]
theorem Qck {place:Nat→Option (Nat×Nat)} {i off:Nat} {cells vs:List Value} {v:Value} {rest:List (Nat×Value)} (hv:v.cells=vs.toArray) (hpi:place i=some (off,vs.length)) (hfit:off+vs.length≤cells.length):
 Instr.fill place cells.toArray ((i,v) :: rest)=Instr.fill place (Qaq cells off vs).toArray rest:=by
 simp only[Instr.fill,hpi,hv,List.size_toArray]
 rw[if_neg (by simp;omega),QpF _ _ _ hfit]
theorem Qdv {place:Nat→Option (Nat×Nat)} {cells:Array Value}:Instr.fill place cells []=some cells:=rfl
section
variable {P:Program} {ops:Array Oper} {rest:List Oper} {o:Oper} {a:Act} {w:World} {Q:Exit→Act→World→Prop}
theorem QaB (hw:Region.wanted o (yielded ops a.tmps)=true) (ty:TypeId) (x:Operand) (ho:o.op= .load ty x) (g off:Nat) (vs:List Value) (hc:∀j v,vs[j]?=some v→w.cell? ⟨g,off+j,none⟩=some v)
 (hx:a.eval x= .pointer (some ⟨g,off,none⟩)) (d:TypeDesc) (hu:P.underlying ty=some d) (hd:QbM d=true) (hi:(P.info? ty).map (·.size)=some vs.length)
 (h:wpList P ops Q rest (a.put o.dst (.agg vs.toArray)) w):wpList P ops Q (o :: rest) a w:=by
 refine BigFrame.wpList_want hw fun K hK=>?_
 unfold Oper.wp
 simp only[execOp,ho,hx,Instr.loadAt,Instr.sureAddr,Sem.run_bind,Sem.run_pure,Result.andThen_ok,Qbn w g off ty vs d hc hu hd hi]
 exact hK _ _ h
theorem Qam (hw:Region.wanted o (yielded ops a.tmps)=true) (t:TypeId) (parts:Array (Nat×Operand)) (ho:o.op= .build t parts) (vs:List Value) (hb:P.built t (parts.map fun (i,x)=>(i,a.eval x)).toList=some vs.toArray)
 (h:wpList P ops Q rest (a.put o.dst (.agg vs.toArray)) w):wpList P ops Q (o :: rest) a w:=
 BigFrame.wpList_want hw fun K hK=>wp_build t parts ho (by rw[hb];rfl) (by rw[hb];exact hK _ _ h)
end
theorem Qdn:(Tryz.prog.info? 30).map (·.size)=some 32:=by kernel_rfl
theorem Qd5 {P:Program} {t:TypeId} {n k:Nat} {d:TypeDesc} (hu:P.underlying t=some d) (hd:QbM d=true) (hs:(P.info? t).map (·.size)=some n) (zs r:List Value) (hz:(zs.drop k).take n=r) (w:World):
 (part t zs.toArray k).run P w= .ok (.agg r.toArray) w:=by
 have hs:(sizeOf t).run P w= .ok n w:=by
  cases hq:P.info? t with
  | none=>simp[hq]at hs
  | some inf=>
    have hsz:inf.size=n:=by simpa [hq] using hs
    simp[sizeOf,typeInfo,hq,hsz]
 have ha:(isAgg t).run P w= .ok true w:=by
  unfold isAgg
  simp only[Sem.run_bind,run_underlying hu]
  cases d<;>simp_all [QbM]
 unfold part
 simp only[Sem.run_bind,ha,Result.andThen_ok,if_true,hs,Sem.run_pure]
 rw[←hz]
 simp
theorem Qc8 {P:Program} {d n k:Nat} {t e:TypeId} {f:Field} {fs:List Field} (hf:f.type=t) (hu:P.underlying t=some (.array n e)) (hs:(P.info? t).map (·.size)=some n) (hs1:(P.info? e).map (·.size)=some 1) (he:P.underlying e=some (.int .u8))
 (hn:f.name≠ "_") {xs ys:List Value} {p q:List UInt8} (ho:f.offset=k) (hp:(xs.drop k).take n=p.map W8) (hq:(ys.drop k).take n=q.map W8) (hpl:p.length=n) (hql:q.length=n) (w:World):
 (Op.eqFields (d+2) xs.toArray ys.toArray (f :: fs)).run P w=if p==q then (Op.eqFields (d+2) xs.toArray ys.toArray fs).run P w else .ok false w:=by
 rw[Op.eqFields,if_pos hn]
 simp only[Sem.run_bind,hf,ho,Qd5 hu rfl hs xs _ hp,Qd5 hu rfl hs ys _ hq,Result.andThen_ok]
 rw[Qba w 0 W8 d t e n hu hs1 he rfl (Qjv _ _ he) p q hpl hql]
 simp only[Result.andThen_ok]
 cases p==q<;>simp
theorem Qb5 {d:Nat} {f:Field} {fs:List Field} (hf:f.type=30) (hn:f.name≠ "_") {xs ys:List Value} {p q:List UInt8} {k:Nat} (ho:f.offset=k) (hp:(xs.drop k).take 32=p.map W8) (hq:(ys.drop k).take 32=q.map W8) (hpl:p.length=32) (hql:q.length=32) (w:World):
 (Op.eqFields (d+2) xs.toArray ys.toArray (f :: fs)).run Tryz.prog w=if p==q then (Op.eqFields (d+2) xs.toArray ys.toArray fs).run Tryz.prog w else .ok false w:=
 Qc8 hf Tryz.underlying30 Qdn Qbu Tryz.underlying5 hn ho hp hq hpl hql w
theorem Qgm {P:Program} {t:TypeId} {fs:Array Field} (hu:P.underlying t=some (.struct fs)) (hp:P.stoodInHeld t=false) (xs ys:Array Value) (w:World):
 (binOp .eql t (.agg xs) (.agg ys)).run P w=((Op.eqFields 9999 xs ys fs.toList).run P w).andThen fun b w'=>.ok (.bool b) w':=by
 have e:P.fieldsOf t=fs:=by unfold Program.fieldsOf;rw[hu]
 rw[run_eql_struct,run_equalIn_struct w 9999 t xs ys (by rw[e];exact hu) hp,e]
theorem QiC {P:Program} {t:TypeId} {fs:Array Field} (hu:P.underlying t=some (.struct fs)) (hp:P.stoodInHeld t=false) (xs ys:Array Value) (w:World):
 (binOp .neq t (.agg xs) (.agg ys)).run P w=((Op.eqFields 9999 xs ys fs.toList).run P w).andThen fun b w'=>.ok (.bool (!b)) w':=by
 have e:P.fieldsOf t=fs:=by unfold Program.fieldsOf;rw[hu]
 rw[run_neq_struct,run_equalIn_struct w 9999 t xs ys (by rw[e];exact hu) hp,e]
theorem Qc6 {d:Nat} {xs ys:Array Value} (w:World):(Op.eqFields d xs ys []).run Tryz.prog w= .ok true w:=by
 rw[Op.eqFields]
 simp
theorem Blk.cast {w:World} {g:Nat} {t:TypeId} {l l':List Value} (h:Blk w g t l) (e:l=l'):Blk w g t l':=e ▸ h
def subB (bs:List UInt8) (off n:Nat):List UInt8:=(bs.drop off).take n
def putB (bs:List UInt8) (off:Nat) (vs:List UInt8):List UInt8:=bs.take off++vs++bs.drop (off+vs.length)
theorem Qan {bs:List UInt8} {off n:Nat} (h:off+n≤bs.length):(subB bs off n).length=n:=by
 rw[subB,QC1,QC3]
 omega
theorem Qbc {bs vs:List UInt8} {off:Nat} (h:off+vs.length≤bs.length):(putB bs off vs).length=bs.length:=by
 rw[putB,QCK,QCK,QC1,QC3]
 omega
theorem Qcn (bs vs:List UInt8) (off:Nat):Qaq (bs.map W8) off (vs.map W8)=(putB bs off vs).map W8:=by
 rw[Qaq,putB,QCE,QDh,QDh,QD1,List.map_drop]
theorem Qcw (p q r:List UInt8) (off n:Nat) (hp:p.length=off) (hq:q.length=n):subB (p++(q++r)) off n=q:=by
 rw[subB,QDn hp,QDY hq]
theorem QjO (q r:List UInt8) (n:Nat) (hq:q.length=n):subB (q++r) 0 n=q:=Qcw [] q r 0 n rfl hq
theorem QmG (p q:List UInt8) (off n:Nat) (hp:p.length=off) (hq:q.length=n):subB (p++q) off n=q:=by
 have:=Qcw p q [] off n hp hq
 rwa [QDf]at this
theorem QkF {bs:List UInt8} {off n j:Nat} {v:UInt8} (h:(subB bs off n)[j]?=some v):bs[off+j]?=some v:=by
 rw[subB,QEh]at h
 split at h
 ·rwa [QDP]at h
 ·cases h
theorem QbH (p q r v:List UInt8) (off:Nat) (hp:p.length=off) (hq:q.length=v.length):putB (p++(q++r)) off v=p++(v++r):=by
 rw[putB,QDY hp,←QEo,QDn hp,QDn hq,QCR]
theorem QcS (q r v:List UInt8) (hq:q.length=v.length):putB (q++r) 0 v=v++r:=QbH [] q r v 0 rfl hq
theorem Qdb (p q v:List UInt8) (off:Nat) (hp:p.length=off) (hq:q.length=v.length):putB (p++q) off v=p++v:=by
 have:=QbH p q [] v off hp hq
 rwa [QDf,QDf]at this
theorem QkA (bs vs:List UInt8) (h:vs.length=bs.length):putB bs 0 vs=vs:=by
 rw[putB,QET,QCG,QC6,QDL (by omega),QDf]
theorem QhW {w:World} {g:Nat} {t:TypeId} {bs r:List UInt8} {off n:Nat} (hb:Blk w g t (bs.map W8)) (hr:subB bs off n=r):∀j v,(r.map W8)[j]?=some v→w.cell? ⟨g,off+j,none⟩=some v:=by
 intro j v hv
 rw[QCS,QD5]at hv
 obtain⟨x,hx,rfl⟩:=hv
 rw[←hr]at hx
 exact hb.cellD _ (by rw[QCS,QkF hx];rfl)
theorem QbU {w:World} {g:Nat} {t:TypeId} {bs r:List UInt8} {off n:Nat} (hb:Blk w g t (bs.map W8)) (hr:subB bs off n=r) (hn:r.length=n):RdB w (some ⟨g,off,none⟩) n r:=
 ⟨by rw[QCE,hn],fun _=>⟨g,off,rfl,hb.lt,fun j u hu=>QhW hb hr j u hu⟩⟩
section
variable {P:Program} {ops:Array Oper} {rest:List Oper} {o:Oper} {a:Act} {w:World} {Q:Exit→Act→World→Prop}
theorem Qoo (off n:Nat) (hw:Region.wanted o (yielded ops a.tmps)=true) {ty:TypeId} (x:Operand) (ho:o.op= .load ty x) {g:Nat} {t:TypeId} {bs r:List UInt8} (hb:Blk w g t (bs.map W8)) (hx:a.eval x= .pointer (some ⟨g,off,none⟩)) {d:TypeDesc} (hu:P.underlying ty=some d) (hd:QbM d=true)
 (hi:(P.info? ty).map (·.size)=some n) (hr:subB bs off n=r) (hn:r.length=n) (h:wpList P ops Q rest (a.put o.dst (.agg (r.map W8).toArray)) w):wpList P ops Q (o :: rest) a w:=
 QaB hw ty x ho g off (r.map W8) (QhW hb hr) hx d hu hd (by rw[QCE,hn];exact hi) h
theorem QeB (off n:Nat) {K:Act→Prop} {ty:TypeId} (x:Operand) (ho:o.op= .load ty x) {w0:World} {g:Nat} {t:TypeId} {bs r:List UInt8} (hb:Blk w0 g t (bs.map W8)) (hx:a.eval x= .pointer (some ⟨g,off,none⟩)) {d:TypeDesc} (hu:P.underlying ty=some d) (hd:QbM d=true)
 (hi:(P.info? ty).map (·.size)=some n) (hr:subB bs off n=r) (hn:r.length=n) (h:K (a.put o.dst (.agg (r.map W8).toArray))):o.quiet P a (fun w'=>∃x,w'=grow w0 x) K:=
 Qa2 ty x ho g off (r.map W8) (fun w' hw j v hv=>by obtain⟨y,rfl⟩:=hw;exact QhW (hb.later ⟨y,rfl⟩) hr j v hv) hx d hu hd (by rw[QCE,hn];exact hi) h
theorem Qf1 (off n:Nat) (hgd:o.guard=none) (hd:o.dst=none) {ty:TypeId} (x y:Operand) (ho:o.op= .store ty x y) {g:Nat} {t:TypeId} {bs vs:List UInt8} (hg:Blk w g t (bs.map W8)) (hx:a.eval x= .pointer (some ⟨g,off,none⟩)) (hy:a.eval y= .agg (vs.map W8).toArray)
 (hi:(P.info? ty).map (·.size)=some n) (hn:vs.length=n) (hfit:off+n≤bs.length) (h:∀w',Blk w' g t ((putB bs off vs).map W8)→Only g w w'→wpList P ops Q rest a w'):wpList P ops Q (o :: rest) a w:=
 Qai hgd hd ty x y ho g off t _ (vs.map W8) hg hx hy (by rw[QCE,hn];exact hi) (by rw[QCE,QCE];omega) (QaC _) (fun w' hb=>h w' (by rwa [Qcn]at hb))
theorem Qf8 (n:Nat) (hgd:o.guard=none) (hd:o.dst=none) {ty:TypeId} (x y:Operand) (ho:o.op= .store ty x y) {g:Nat} {t:TypeId} {l:List Value} {vs:List UInt8} (hg:Blk w g t l) (hx:a.eval x= .pointer (some ⟨g,0,none⟩)) (hy:a.eval y= .agg (vs.map W8).toArray)
 (hi:(P.info? ty).map (·.size)=some n) (hn:vs.length=n) (hl:l.length=n) (h:∀w',Blk w' g t (vs.map W8)→Only g w w'→wpList P ops Q rest a w'):wpList P ops Q (o :: rest) a w:=
 Qai hgd hd ty x y ho g 0 t l (vs.map W8) hg hx hy (by rw[QCE,hn];exact hi) (by rw[QCE];omega) (QaC _) (fun w' hb=>h w' (by rwa [Qal _ _ (by rw[QCE];omega)]at hb))
theorem Qh4 (off m:Nat) (hgd:o.guard=none) (dd s:Operand) (dT sT:TypeId) (ho:o.op= .call { callee:=.builtin .copy,args:= #[dd,s],argTypes:= #[dT,sT] }) (elem:TypeId) (hu:P.underlying dT=some (.slice elem)) (hsz:(P.info? elem).map (·.size)=some 1)
 {g c:Nat} {t:TypeId} {bs:List UInt8} (hg:Blk w g t (bs.map W8)) {A:Option Addr} {c2:Nat} {vs:List UInt8} (hr:RdB w A m vs) (hd:a.eval dd= .slice (some ⟨g,off,none⟩) m c) (hs:a.eval s= .slice A m c2) (hfit:off+m≤bs.length)
 (h:∀w',Blk w' g t ((putB bs off vs).map W8)→Only g w w'→wpList P ops Q rest (a.put o.dst (.int .i64 ((m:Nat):Int))) w'):wpList P ops Q (o :: rest) a w:=
 Qar hgd dd s dT sT ho elem hu hsz g off m c t _ hg A m c2 (vs.map W8) hr (QaC _) hd hs (by rw[QCE];exact hfit) (fun w' hb ho=>by
  rw[QCP (by rw[QCE,hr.len];exact QCL _),Qcn]at hb
  rw[Nat.min_self]
  exact h w' hb ho)
end
def QeQ (bs:List UInt8):List (Nat×List UInt8)→List UInt8
 | []=>bs
 | (off,vs) :: r=>QeQ (putB bs off vs) r
theorem QjV (place:Nat→Option (Nat×Nat)):∀(parts:List (Nat×Nat×List UInt8)) (bs:List UInt8),(∀ p∈parts,place p.1=some (p.2.1,p.2.2.length)∧p.2.1+p.2.2.length≤bs.length)→
 Instr.fill place (bs.map W8).toArray (parts.map fun p=>(p.1,.agg (p.2.2.map W8).toArray))=some ((QeQ bs (parts.map fun p=>(p.2.1,p.2.2))).map W8).toArray
 | [],bs,_=>rfl
 | (i,off,vs) :: r,bs,h=>by
   have h0:=h (i,off,vs) (by simp)
   rw[QC7,Qck (vs:=vs.map W8) (off:=off) rfl (by rw[QCE];exact h0.1) (by rw[QCE,QCE];exact h0.2),Qcn,QjV place r (putB bs off vs) fun p hp=>?_]
   ·rfl
   ·have:=h p (by simp[hp])
    rw[Qbc h0.2]
    exact this
theorem Qew {P:Program} {t:TypeId} {n:Nat} {fs:Array Field} {pl:List (Nat×Nat)} (hu:P.underlying t=some (.struct fs)) (hz:(P.info? t).bind (·.zero)=some (.agg (QCA n (W8 0)).toArray))
 (hp:(fs.toList.mapM fun f=>(P.info? f.type).map fun i=>(f.offset,i.size))=some pl) (parts:List (Nat×Nat×List UInt8)) (hpl:∀p∈parts,pl.toArray[p.1]?=some (p.2.1,p.2.2.length)∧p.2.1+p.2.2.length≤n):
 P.built t (parts.map fun p=>(p.1,.agg (p.2.2.map W8).toArray))=some ((QeQ (QCA n 0) (parts.map fun p=>(p.2.1,p.2.2))).map W8).toArray:=by
 rw[QbD hu hz hp,show QCA n (W8 0)=(QCA n (0:UInt8)).map W8 by rw[QDg],QjV _ parts _ (fun p hp=>by rw[QCM];exact hpl p hp)]
structure Bag (w wk:World) (ls:List (Nat×TypeId×List Value)):Prop where
 lat:Later w wk
 blk:∀p∈ls,Blk wk p.1 p.2.1 p.2.2
 low:∀p∈ls,w.heap.size≤p.1
 nd:(ls.map (·.1)).Nodup
section
variable {w wk v v1:World} {ls:List (Nat×TypeId×List Value)} {k:Nat} {t:TypeId} {l l':List Value}
theorem Bag.nth (h:Bag w wk ls) (i:Nat) (hi:ls[i]?=some (k,t,l)):Blk wk k t l:=h.blk (k,t,l) (List.mem_of_getElem? hi)
theorem Bag.at_low (h:Bag w wk ls) (i:Nat) (hi:ls[i]?=some (k,t,l)):w.heap.size≤k:=h.low (k,t,l) (List.mem_of_getElem? hi)
theorem Bag.later (h:Bag w wk ls) (j:Later wk v):Bag w v ls:=⟨h.lat.trans j,fun p hp=>(h.blk p hp).later j,h.low,h.nd⟩
theorem Bag.drew (h:Bag w wk ls):Bag w wk.drew ls:=h.later (Qab _)
theorem Bag.none (w:World):Bag w w []:=⟨Later.refl w,by simp,by simp,by simp⟩
theorem Bag.add (h:Bag w wk ls) (j:Later wk v) (hk:∀p∈ls,k≠p.1) (hl:w.heap.size≤k) (hb:Blk v k t l):Bag w v ((k,t,l) :: ls):=by
 have h1:=h.later j
 refine⟨h1.lat,?_,?_,?_⟩
 ·intro p hp
  rcases QCX.1 hp with rfl|hp
  ·exact hb
  ·exact h1.blk p hp
 ·intro p hp
  rcases QCX.1 hp with rfl|hp
  ·exact hl
  ·exact h1.low p hp
 ·rw[QC7,QED]
  refine⟨fun hm=>?_,h1.nd⟩
  obtain⟨p,hp,e⟩:=QDt.1 hm
  exact hk p hp e.symm
theorem Bag.write (h:Bag w wk ls) (i:Nat) (hi:ls[i]?=some (k,t,l)) (o:Only k wk v) (hb:Blk v k t l'):Bag w v (ls.set i (k,t,l')):=by
 refine⟨h.lat.only o (h.at_low i hi),?_,?_,?_⟩
 ·intro p hp
  obtain⟨j,hj⟩:=List.getElem?_of_mem hp
  rw[List.getElem?_set]at hj
  split at hj
  ·split at hj
   ·cases hj
    exact hb
   ·cases hj
  ·rename_i hne
   refine (h.blk p (List.mem_of_getElem? hj)).only o ?_
   intro e
   have h1:(ls.map (·.1))[i]?=some k:=by rw[QCS,hi];rfl
   have h2:(ls.map (·.1))[j]?=some k:=by rw[QCS,hj,←e];rfl
   have hlt:i<(ls.map (·.1)).length:=(QCT.1 h1).1
   exact hne ((List.getElem?_inj hlt h.nd).1 (h1.trans h2.symm))
 ·intro p hp
  rcases List.mem_or_eq_of_mem_set hp with hp|rfl
  ·exact h.low p hp
  ·exact h.at_low i hi
 ·have:(ls.set i (k,t,l')).map (·.1)=ls.map (·.1):=by
   rw[QEU]
   apply List.ext_getElem?
   intro j
   rw[List.getElem?_set]
   split
   ·rename_i e
    subst e
    split
    ·rw[QCS,hi];rfl
    ·rename_i hlt
     rw[QDQ (by omega)]
   ·rfl
  rw[this]
  exact h.nd
theorem Bag.push (h:Bag w wk ls) (j:Later wk v) (hk:wk.heap.size≤k) (o:Only k v v1) (hb:Blk v1 k t l):Bag w v1 ((k,t,l) :: ls):=by
 have h0:∀p∈ls,k≠p.1:=fun p hp e=>by have:=(h.blk p hp).lt;omega
 have hw:w.heap.size≤k:=by have:=h.lat.size;omega
 have h1:=h.later j
 refine⟨h1.lat.only o hw,?_,?_,?_⟩
 ·intro p hp
  rcases QCX.1 hp with rfl|hp
  ·exact hb
  ·exact (h1.blk p hp).only o (fun e=>h0 p hp e.symm)
 ·intro p hp
  rcases QCX.1 hp with rfl|hp
  ·exact hw
  ·exact h1.low p hp
 ·rw[QC7,QED]
  refine⟨fun hm=>?_,h1.nd⟩
  obtain⟨p,hp,e⟩:=QDt.1 hm
  exact h0 p hp e.symm
theorem Bag.ne {p q:Nat×TypeId×List Value} (h:Bag w wk ls) (i j:Nat) (hi:ls[i]?=some p) (hj:ls[j]?=some q) (hij:i≠j):p.1≠q.1:=by
 intro e
 have h1:(ls.map (·.1))[i]?=some p.1:=by rw[QCS,hi];rfl
 have h2:(ls.map (·.1))[j]?=some p.1:=by rw[QCS,hj,e];rfl
 have hlt:i<(ls.map (·.1)).length:=(QCT.1 h1).1
 exact hij ((List.getElem?_inj hlt h.nd).1 (h1.trans h2.symm))
theorem Bag.drop (h:Bag w wk ls) (n:Nat):Bag w wk (ls.drop n):=
 ⟨h.lat,fun p hp=>h.blk p (List.mem_of_mem_drop hp),fun p hp=>h.low p (List.mem_of_mem_drop hp),by rw[List.map_drop];exact (List.drop_sublist n _).nodup h.nd⟩
end
theorem Qbr (w:World) (t:TypeId) (l:List Value):Bag w (w.alloc (.cells l.toArray t)) [(w.heap.size,t,l)]:=
 ⟨Qaa _ _,by intro p hp;simp at hp;subst hp;exact Blk.new w t l,by simp,by simp⟩
section
variable {α:Type}
theorem QbY {F:α→List Value} {sz:Nat} (hF:∀x,(F x).length=sz):∀xs:List α,(xs.flatMap F).length=xs.length*sz
 | []=>by simp
 | x :: xs=>by rw[QEd,QCK,hF,QbY hF xs,QDu,QER];omega
theorem Qe4 {F:α→List Value} {sz:Nat} (hF:∀x,(F x).length=sz) (d:α) {i:Nat} {v:Value}:∀(xs:List α) (j:Nat),j<xs.length→(F (xs.getD j d))[i]?=some v→(xs.flatMap F)[j*sz+i]?=some v
 | [],j,hj,_=>by simp at hj
 | x :: xs,0,_,hv=>by
   have hv':(F x)[i]?=some v:=by simpa using hv
   have hi:i<(F x).length:=(QCT.1 hv').1
   rw[QEd,QEO,QC6,QCU hi]
   exact hv'
 | x :: xs,j+1,hj,hv=>by
   rw[QEd,QCQ (by rw[hF,QER];omega),hF]
   have:=Qe4 hF d (i:=i) xs j (by simpa using hj) (by simpa using hv)
   rw[show (j+1)*sz+i-sz=j*sz+i by rw[QER];omega]
   exact this
theorem QuO {F:α→List Value} {sz:Nat} (hF:∀x,(F x).length=sz) (d:α) (h0:0<sz) {q:Nat} {v:Value} {xs:List α} (h:(xs.flatMap F)[q]?=some v):q/sz<xs.length∧(F (xs.getD (q/sz) d))[q%sz]?=some v:=by
 have hq:q<xs.length*sz:=by
  have:=(QCT.1 h).1
  rwa [QbY hF]at this
 have hj:q/sz<xs.length:=(Nat.div_lt_iff_lt_mul h0).2 hq
 refine⟨hj,?_⟩
 have hr:q%sz<(F (xs.getD (q/sz) d)).length:=by rw[hF];exact QC4 _ h0
 have e:=Qe4 hF d xs (q/sz) hj (QCH hr)
 rw[show q/sz*sz+q%sz=q by rw[QDE];exact QDw q sz,h]at e
 rw[QCH hr,←Option.some.inj e]
theorem Qms {F:α→List Value} {sz:Nat} (hF:∀x,(F x).length=sz) (d:α) {off:Nat} {vs:List Value} {y:α}:∀(xs:List α) (j:Nat),j<xs.length→off+vs.length≤sz→F y=Qaq (F (xs.getD j d)) off vs→Qaq (xs.flatMap F) (j*sz+off) vs=(xs.set j y).flatMap F
 | [],j,hj,_,_=>by simp at hj
 | x :: xs,0,_,ho,hy=>by
   have hx:=hF x
   rw[QCN,QEd,QEd,hy,QEO,QC6]
   simp only[Qaq,List.getD_cons_zero]
   rw[QDk (by omega),QDH (by omega)]
   simp only[QCR]
 | x :: xs,j+1,hj,ho,hy=>by
   have ih:=Qms hF d (off:=off) (vs:=vs) (y:=y) xs j (by simpa using hj) ho (by simpa using hy)
   rw[QCO,QEd,QEd,←ih]
   have hx:=hF x
   simp only[Qaq]
   rw[List.take_append,List.drop_append,QCP (by rw[hx,QER];omega),QEj (by rw[hx,QER];omega),hx,show (j+1)*sz+off-sz=j*sz+off by rw[QER];omega,show (j+1)*sz+off+vs.length-sz=j*sz+off+vs.length by rw[QER];omega]
   simp only[QCG,QCR]
def RdF (F:α→List Value) (sz:Nat) (d:α) (w:World) (A:Option Addr) (n:Nat) (xs:List α):Prop:=
 xs.length=n∧(0<n→∃b o,A=some ⟨b,o,none⟩∧b<w.heap.size∧∀j i v,j<n→(F (xs.getD j d))[i]?=some v→w.cell? ⟨b,o+j*sz+i,none⟩=some v)
variable {F:α→List Value} {sz:Nat} {d:α} {w w':World} {A:Option Addr} {n:Nat} {xs:List α}
theorem RdF.later (h:RdF F sz d w A n xs) (hl:Later w w'):RdF F sz d w' A n xs:=by
 refine⟨h.1,fun hn=>?_⟩
 obtain⟨b,o,hA,hb,hc⟩:=h.2 hn
 exact⟨b,o,hA,QC0 hb hl.size,fun j i v hj hv=>(hl.below.cell (p:=⟨b,o+j*sz+i,none⟩) hb).trans (hc j i v hj hv)⟩
theorem QoY (w:World):RdF F sz d w none 0 []:=⟨rfl,fun h=>absurd h (by omega)⟩
theorem RdF.at_ (h:RdF F sz d w A n xs) {k:Nat} (hk:k<n):
 ∃b o,A=some ⟨b,o,none⟩∧b<w.heap.size∧∀i v,(F (xs.getD k d))[i]?=some v→w.cell? ⟨b,o+k*sz+i,none⟩=some v:=by
 obtain⟨b,o,hA,hb,hc⟩:=h.2 (by omega)
 exact⟨b,o,hA,hb,fun i v hv=>hc k i v hk hv⟩
theorem RdF.cells (hF:∀x,(F x).length=sz) (h0:0<sz) {ad:Addr} (h:RdF F sz d w (some ad) n xs):∀q v,(xs.flatMap F)[q]?=some v→w.cell? (ad.add q)=some v:=by
 intro q v hv
 obtain⟨hj,hi⟩:=QuO hF d h0 hv
 rw[h.1]at hj
 obtain⟨b,o,hA,_,hc⟩:=h.2 (QD0 (Nat.zero_le _) hj)
 obtain rfl:ad=⟨b,o,none⟩:=by simpa using hA
 rw[Qdr]
 have:=hc _ _ _ hj hi
 rwa [Nat.add_assoc,show q/sz*sz+q%sz=q by rw[QDE];exact QDw q sz]at this
theorem Qng (hF:∀x,(F x).length=sz) {base c:Nat} {e:TypeId} (h:w.ownsRow base e sz (.slice A n c) n (xs.flatMap F)) (hn:xs.length=n):RdF F sz d w A n xs:=by
 refine⟨hn,fun h0=>?_⟩
 rcases h.2 with ⟨_,hz⟩|⟨g,cap,cur,hvv,hb,hh,hnc,hm,hs,ht⟩
 ·omega
 ·cases hvv
  refine⟨g,0,rfl,(h.lt g rfl).2,fun j i v hj hv=>?_⟩
  have hg:=h.cells (g:=g) rfl (j*sz+i) v (Qe4 hF d xs j (by omega) hv)
  rw[Qdr]at hg
  rw[QC6]at hg ⊢
  exact hg
theorem Qya (hF:∀x,(F x).length=sz) {g:Nat} {t:TypeId} (h:Blk w g t (xs.flatMap F)) (hn:xs.length=n):RdF F sz d w (some ⟨g,0,none⟩) n xs:=by
 refine⟨hn,fun _=>⟨g,0,rfl,h.lt,fun j i v hj hv=>?_⟩⟩
 rw[QC6]
 exact h.cellD _ (Qe4 hF d xs j (by omega) hv)
theorem Qqb {base:Nat} {e:TypeId} {v:Value} {vs:List Value} (h:w.ownsRow base e sz v n vs):∃A c,v= .slice A n c∧n≤c:=by
 rcases h.2 with ⟨rfl,rfl⟩|⟨g,cap,cur,rfl,_,_,hnc,_⟩
 ·exact⟨none,0,rfl,QCL _⟩
 ·exact⟨_,_,rfl,hnc⟩
theorem Qft {base:Nat} {e:TypeId} {v:Value} {vs:List Value} (h:w.ownsRow base e sz v n vs) (hl:Later w w'):w'.ownsRow base e sz v n vs:=
 h.kept (row:=none) ⟨hl.below.os,hl.below.tape,hl.below.output,hl.size,fun k hk _=>hl.below.block k hk⟩ (by cases v.ownBlock<;>simp)
theorem QqV (hF:∀x,(F x).length=sz) (h0:0<sz) (d:α) (n:Nat):madeCells (F d).toArray (n*sz)=((QCA n d).flatMap F).toArray:=by
 have hl:=QbY hF (QCA n d)
 rw[QCM]at hl
 apply Array.ext
 ·simp[madeCells,hl]
 ·intro i h1 h2
  have hi:i<n*sz:=by simpa [madeCells] using h1
  have hj:i/sz<n:=(Nat.div_lt_iff_lt_mul h0).2 hi
  have hr:i%sz<(F d).length:=by rw[hF];exact QC4 _ h0
  have hg:(QCA n d).getD (i/sz) d=d:=by rw[QCI,QEe,if_pos hj];rfl
  have e:=Qe4 hF d (QCA n d) (i/sz) (by rw[QCM];exact hj) (by rw[hg];exact QCH hr)
  rw[show i/sz*sz+i%sz=i by rw[QDE];exact QDw i sz]at e
  have e2:=(QCT.1 e).2
  simp only[madeCells,Array.getElem_map,Array.getElem_range,List.getElem_toArray,List.size_toArray,hF]
  rw[e2]
  rw[getElem!_pos _ _ (by rw[List.size_toArray];exact hr)]
  rfl
end
section
variable {P:Program} {ops:Array Oper} {rest:List Oper} {o:Oper} {a:Act} {w:World} {Q:Exit→Act→World→Prop} {α:Type} {F:α→List Value} {sz:Nat} {d:α}
theorem Qh1 (hF:∀x,(F x).length=sz) (hF1:∀x,∀u∈F x,u.oneCell'=true) (h0:0<sz) (hgd:o.guard=none) (s x:Operand) (t:TypeId) (ho:o.op= .call { callee:=.builtin .append,args:= #[s,x],argTypes:= #[t,t] })
 (e:TypeId) (z:Value) (bytes:Nat) (ht:P.underlying t=some (.slice e)) (hinfo:(P.info? e).map (fun i=>(i.zero,i.size,i.bytes))=some (some z,sz,bytes)) (hzs:z.cells.size=sz)
 (w0:World) (v:Value) (n:Nat) (vs:List Value) (hown:w.ownsRow w0.heap.size e sz v n vs) (hl:Later w0 w)
 (A:Option Addr) (m c:Nat) (xs:List α) (hr:RdF F sz d w A m xs) (hs:a.eval s=v) (hx:a.eval x= .slice A m c) (hsz:(n+m)*bytes≤140737488355328) (hby:0<bytes)
 (h:∀A' c' w',w'.ownsRow w0.heap.size e sz (.slice A' (n+m) c') (n+m) (vs++xs.flatMap F)→Later w0 w'→w.grownBy w' v.ownBlock→wpList P ops Q rest (a.put o.dst (.slice A' (n+m) c')) w'):
 wpList P ops Q (o :: rest) a w:=by
 obtain⟨i,hi,hz,hsize,hbytes⟩:=info_parts hinfo
 have hnm:n+m≤140737488355328:=QDl (QDI _ hby) hsz
 have hmax:n+m≤maxLen:=by unfold maxLen;omega
 have hfin:∀v' w',(Builtin.append_ #[t,t] o.type #[v,.slice A m c]).run P w= .ok v' w'→w'.ownsRow w0.heap.size e sz v' (n+m) (vs++xs.flatMap F)→w.grownBy w' v.ownBlock→wpList P ops Q (o :: rest) a w:=by
  intro v' w' hrun hown' hg
  refine wpList_plain hgd fun K hK=>?_
  unfold Oper.wp execOp
  simp only[ho,resolve,invoke,builtin,Sem.run_bind,Sem.run_pure,Result.andThen_ok,QCW,QC7,QC2,hs,hx,hrun]
  have hlat:Later w0 w':=hl.grownBy hg (fun k hk=>(hown.lt k hk).1)
  obtain⟨A',c',rfl,_⟩:=Qqb hown'
  exact hK _ _ (h A' c' w' hown' hlat hg)
 have hlen:(xs.flatMap F).length=m*sz:=by rw[QbY hF,hr.1]
 cases A with
 | some ad=>
   have h1:∀u∈xs.flatMap F,u.oneCell'=true:=by
    intro u hu
    obtain⟨x,_,hx⟩:=List.mem_flatMap.1 hu
    exact hF1 x u hx
   obtain⟨v',w',hrun,h2,h3,_⟩:=run_append_own (P:=P) w w0.heap.size t o.type e i z sz bytes ht hi hz hsize hbytes hzs h0 v n vs hown ad m c _ hlen (hr.cells hF h0) h1 hmax hsz hl.size
   exact hfin v' w' hrun h2 h3
 | none=>
   have hm:m=0:=by
    rcases Nat.eq_zero_or_pos m with h0|h0
    ·exact h0
    ·obtain⟨b,off,hA,_⟩:=hr.2 h0
     cases hA
   subst hm
   have hn:xs=[]:=QDj hr.1
   subst hn
   have hrun:(Builtin.append_ #[t,t] o.type #[v,.slice none 0 c]).run P w= .ok v w:=by
    rcases hown.2 with ⟨rfl,rfl⟩|⟨g,cap,cur,rfl,_,_,hnc,_⟩
    ·simp[Builtin.append_,run_underlying ht,sizeOf,typeInfo,hi,Builtin.lenOf,Builtin.firstCells]
    ·simp[Builtin.append_,run_underlying ht,sizeOf,typeInfo,hi,Builtin.lenOf,Builtin.firstCells,hnc,storeCells]
   exact hfin v w hrun (by simpa using hown) (World.grownBy.refl w _)
theorem QkI (hF:∀x,(F x).length=sz) (h0:0<sz) (d:α) (hgd:o.guard=none) (l c:Operand) (t:TypeId) (ho:o.op=Op.makeSlice t l c) (e:TypeId) (bytes:Nat) (ht:P.underlying t=some (.slice e))
 (hinfo:(P.info? e).map (fun i=>(i.zero,i.size,i.bytes))=some (some (.agg (F d).toArray),sz,bytes)) (kl kc:IntKind) (L C:Int) (n:Nat) (hl:a.eval l= .int kl L) (hc:a.eval c= .int kc C) (hL:L=(n:Int)) (hC:C=(n:Int))
 (hby:0<bytes) (hsz:n*bytes≤140737488355328) (h:∀w',Blk w' w.heap.size e ((QCA n d).flatMap F)→Later w w'→wpList P ops Q rest (a.put o.dst (.slice (some ⟨w.heap.size,0,none⟩) n n)) w'):
 wpList P ops Q (o :: rest) a w:=by
 obtain⟨i,hi,hz,hsize,hbytes⟩:=info_parts hinfo
 have hn:n≤140737488355328:=QDl (QDI _ hby) hsz
 refine wpList_plain hgd fun K hK=>?_
 have hb:((i.bytes:Int)*(n:Int))≤281474976710656:=by
  rw[hbytes,←QEn,QDE]
  omega
 have hr:=run_make (P:=P) w t e i _ ht hi hz kl kc n n (by omega) (Int.le_refl _) hb (by omega)
 have hcells:(Value.agg (F d).toArray).cells=(F d).toArray:=rfl
 simp only[QEv,hsize,hcells,QqV hF h0 d]at hr
 subst hL
 subst hC
 unfold Oper.wp
 simp only[execOp,ho,hl,hc,Sem.run_bind,hr,Result.andThen_ok,Sem.run_pure]
 exact hK _ _ (h _ (Blk.new w e _) (Qaa _ _))
end
section
variable {P:Program}
theorem Qj4 {t e:TypeId} {sz:Nat} {z v:Value} {vs:List Value} (ht:P.underlying t=some (.slice e)) (hz:(P.info? e).map (fun i=>(i.zero,i.size))=some (some z,sz)) (hs0:0<sz) (hsm:sz≤65536) (hv:v.cells=vs.toArray) (hvl:vs.length=sz) (w:World):
 (Instr.buildSlice t 1 #[(0,v)]).run P w= .ok (.slice (some ⟨w.heap.size,0,none⟩) 1 1) (w.alloc (.cells vs.toArray e)):=by
 cases hi:P.info? e with
 | none=>simp[hi]at hz
 | some i=>
   simp only[hi,QEm,Option.some.injEq,Prod.mk.injEq]at hz
   obtain⟨h1,h2⟩:=hz
   have hso:(sizeOf e).run P w= .ok sz w:=by simp[sizeOf,typeInfo,hi,h2]
   have hzv:(zeroValue e).run P w= .ok z w:=by simp[zeroValue,typeInfo,hi,h1]
   have hl:((Array.range (1*sz)).map fun x=>z.cells[x%z.cells.size]!)=((Array.range (1*sz)).map fun x=>z.cells[x%z.cells.size]!).toList.toArray:=rfl
   have hll:((Array.range (1*sz)).map fun x=>z.cells[x%z.cells.size]!).toList.length=sz:=by simp
   have hf:Instr.fill (fun i=>some (i*sz,sz)) ((Array.range (1*sz)).map fun x=>z.cells[x%z.cells.size]!) [(0,v)]=some vs.toArray:=by
    rw[hl]
    rw[Qck (vs:=vs) (off:=0) hv (by rw[hvl,QEO]) (by rw[hll];omega),Qdv,Qal _ _ (by rw[hll,hvl])]
   unfold Instr.buildSlice
   simp only[Sem.run_bind,run_underlying ht,Result.andThen_ok,hso,Nat.one_mul]
   rw[if_neg (by omega),if_neg (by omega)]
   simp only[Nat.one_mul]at hf
   simp only[Sem.run_bind,hzv,Result.andThen_ok,Sem.run_pure,hf]
   simp[newRow]
end
section
variable {P:Program} {ops:Array Oper} {rest:List Oper} {o:Oper} {a:Act} {w:World} {Q:Exit→Act→World→Prop}
theorem QlG (hw:Region.wanted o (yielded ops a.tmps)=true) (t:TypeId) (x:Operand) (ho:o.op= .buildSlice t 1 #[(0,x)]) (e:TypeId) (sz:Nat) (z:Value) (bs:List UInt8) (ht:P.underlying t=some (.slice e)) (hz:(P.info? e).map (fun i=>(i.zero,i.size))=some (some z,sz)) (hs0:0<sz) (hsm:sz≤65536)
 (hbl:bs.length=sz) (hx:a.eval x= .agg (bs.map W8).toArray)
 (h:wpList P ops Q rest (a.put o.dst (.slice (some ⟨w.heap.size,0,none⟩) 1 1)) (w.alloc (.cells (bs.map W8).toArray e))):wpList P ops Q (o :: rest) a w:=
 BigFrame.wpList_want hw fun K hK=>by
  have hr:=Qj4 (v:=.agg (bs.map W8).toArray) ht hz hs0 hsm rfl (by rw[QCE,hbl]) w
  unfold Oper.wp
  simp only[execOp,ho,QCW,QC7,QC2,hx,Sem.run_bind,hr,Result.andThen_ok,Sem.run_pure]
  exact hK _ _ h
end
def RdK (sz:Nat) (w:World) (A:Option Addr) (n:Nat) (xs:List (List UInt8)):Prop:=
 xs.length=n∧(0<n→∃b o,A=some ⟨b,o,none⟩∧b<w.heap.size∧∀j i v,j<n→((xs.getD j []).map W8)[i]?=some v→w.cell? ⟨b,o+j*sz+i,none⟩=some v)
theorem RdK.later {sz:Nat} {w w':World} {A:Option Addr} {n:Nat} {xs:List (List UInt8)} (h:RdK sz w A n xs) (hl:Later w w'):RdK sz w' A n xs:=by
 refine⟨h.1,fun hn=>?_⟩
 obtain⟨b,o,hA,hb,hc⟩:=h.2 hn
 exact⟨b,o,hA,QC0 hb hl.size,fun j i v hj hv=>(hl.below.cell (p:=⟨b,o+j*sz+i,none⟩) hb).trans (hc j i v hj hv)⟩
theorem QlK {sz i:Nat} {v:UInt8}:∀(xs:List (List UInt8)) (j:Nat),(∀ x∈xs,x.length=sz)→j<xs.length→(xs.getD j [])[i]?=some v→xs.flatten[j*sz+i]?=some v
 | [],j,_,h,_=>by simp at h
 | x :: xs,j,hl,hj,hv=>by
   have hx:=hl x (by simp)
   cases j with
   | zero=>
     have hv':x[i]?=some v:=by simpa using hv
     have hi:i<x.length:=(QCT.1 hv').1
     rw[QDN,QEO,QC6,QCU hi]
     exact hv'
   | succ j=>
     rw[QDN,QCQ (by rw[hx,QER];omega),hx]
     have:=QlK (sz:=sz) (i:=i) xs j (fun y hy=>hl y (by simp[hy])) (by simpa using hj) (by simpa using hv)
     rw[show (j+1)*sz+i-sz=j*sz+i by rw[QER];omega]
     exact this
theorem Qsp {sz:Nat} {w:World} {base:Nat} {e:TypeId} {A:Option Addr} {n c:Nat} {xs:List (List UInt8)} (h:w.ownsRow base e sz (.slice A n c) n (xs.flatten.map W8)) (hn:xs.length=n) (hl:∀x∈xs,x.length=sz):RdK sz w A n xs:=by
 refine⟨hn,fun h0=>?_⟩
 rcases h.2 with ⟨_,hz⟩|⟨g,cap,cur,hvv,hb,hh,hnc,hm,hs,ht⟩
 ·omega
 ·cases hvv
  refine⟨g,0,rfl,(h.lt g rfl).2,fun j i v hj hv=>?_⟩
  rw[QCS,QD5]at hv
  obtain⟨x,hx,rfl⟩:=hv
  have hg:=h.cells (g:=g) rfl (j*sz+i) (W8 x) (by rw[QCS,QlK xs j hl (by omega) hx];rfl)
  rw[Qdr]at hg
  rw[QC6]at hg ⊢
  exact hg
theorem RdK.at_ {sz:Nat} {w:World} {A:Option Addr} {n:Nat} {xs:List (List UInt8)} (h:RdK sz w A n xs) {k:Nat} (hk:k<n):
 ∃b o,A=some ⟨b,o,none⟩∧b<w.heap.size∧∀j v,((xs.getD k []).map W8)[j]?=some v→w.cell? ⟨b,o+k*sz+j,none⟩=some v:=by
 obtain⟨b,o,hA,hb,hc⟩:=h.2 (by omega)
 exact⟨b,o,hA,hb,fun j v hv=>hc k j v hk hv⟩
theorem RdK.sub {sz:Nat} {w:World} {A:Option Addr} {n:Nat} {xs:List (List UInt8)} (h:RdK sz w A n xs) {k:Nat} (hk:k<n):
 ∃b o,A=some ⟨b,o,none⟩∧b<w.heap.size∧∀(w':World),Later w w'→∀(off m:Nat) (r:List UInt8),subB (xs.getD k []) off m=r→∀j v,(r.map W8)[j]?=some v→w'.cell? ⟨b,o+k*sz+off+j,none⟩=some v:=by
 obtain⟨b,o,hA,hb,hc⟩:=h.2 (by omega)
 refine⟨b,o,hA,hb,fun w' hl off m r hr j v hv=>?_⟩
 rw[QCS,QD5]at hv
 obtain⟨x,hx,rfl⟩:=hv
 rw[←hr]at hx
 refine (hl.below.cell (p:=⟨b,o+k*sz+off+j,none⟩) hb).trans ?_
 have:=hc k (off+j) (W8 x) hk (by rw[QCS,QkF hx];rfl)
 rwa [←Nat.add_assoc]at this
theorem Qg3 {w:World} {base:Nat} {e:TypeId} {sz:Nat} {v:Value} {n:Nat} {vs:List Value} (h:w.ownsRow base e sz v n vs):∃A c,v= .slice A n c∧n≤c:=by
 rcases h.2 with ⟨rfl,rfl⟩|⟨g,cap,cur,rfl,_,_,hnc,_⟩
 ·exact⟨none,0,rfl,QCL _⟩
 ·exact⟨_,_,rfl,hnc⟩
theorem QcV {w w':World} {base:Nat} {e:TypeId} {sz:Nat} {v:Value} {n:Nat} {vs:List Value} (h:w.ownsRow base e sz v n vs) (hl:Later w w'):w'.ownsRow base e sz v n vs:=
 h.kept (row:=none) ⟨hl.below.os,hl.below.tape,hl.below.output,hl.size,fun k hk _=>hl.below.block k hk⟩ (by cases v.ownBlock<;>simp)
theorem Qu8 {w:World} {base g:Nat} {e:TypeId} {sz N:Nat} {l:List Value} (h:Blk w g e l) (hb:base≤g) (hl:l.length=N*sz) (hm:N≤maxLen):w.ownsRow base e sz (.slice (some ⟨g,0,none⟩) 0 N) 0 []:=
 ⟨by simp,.inr ⟨g,N,l.toArray,rfl,hb,h,Nat.zero_le _,hm,by simp[hl],by simp⟩⟩
theorem QcT {w w':World} {base g sz:Nat} {e t:TypeId} {v:Value} {n:Nat} {vs l:List Value} (hb:Blk w g t l) (h:w.ownsRow base e sz v n vs) (hne:t≠e) (hg:w.grownBy w' v.ownBlock):Blk w' g t l:=by
 refine (hg.block g hb.lt ?_).trans hb
 rcases h.2 with ⟨rfl,_⟩|⟨g2,c2,cur2,rfl,_,hh2,_⟩
 ·simp[Value.ownBlock]
 ·intro he
  simp only[Value.ownBlock,Option.some.injEq]at he
  subst he
  exact hb.ne_type (l':=cur2.toList) (t':=e) hh2 hne rfl
theorem Qgo {w w':World} {base k sz:Nat} {e t:TypeId} {v:Value} {n:Nat} {vs l:List Value} (h:w.ownsRow base e sz v n vs) (hb:Blk w k t l) (hne:t≠e) (ho:Only k w w'):w'.ownsRow base e sz v n vs:=by
 refine h.kept ho ?_
 rcases h.2 with ⟨rfl,_⟩|⟨g2,c2,cur2,rfl,_,hh2,_⟩
 ·exact .inl rfl
 ·refine .inr fun he=>?_
  simp only[Value.ownBlock,Option.some.injEq]at he
  subst he
  exact hb.ne_type (l':=cur2.toList) (t':=e) hh2 hne rfl
theorem Qg9 {w w':World} {b1 b2 s1 s2:Nat} {e1 e2:TypeId} {v1 v2:Value} {n1 n2:Nat} {x1 x2:List Value} (h1:w.ownsRow b1 e1 s1 v1 n1 x1) (h2:w.ownsRow b2 e2 s2 v2 n2 x2) (hne:e1≠e2) (hg:w.grownBy w' v2.ownBlock):
 w'.ownsRow b1 e1 s1 v1 n1 x1:=by
 refine h1.kept hg ?_
 rcases h1.2 with ⟨rfl,_⟩|⟨g1,c1,cur1,rfl,_,hh1,_⟩
 ·exact .inl rfl
 ·right
  rcases h2.2 with ⟨rfl,_⟩|⟨g2,c2,cur2,rfl,_,hh2,_⟩
  ·simp[Value.ownBlock]
  ·intro hb
   simp only[Value.ownBlock,Option.some.injEq]at hb
   subst hb
   rw[hh1]at hh2
   injection hh2 with hh2
   injection hh2 with _ h
   exact hne h
theorem Bag.grown {w wk v':World} {ls:List (Nat×TypeId×List Value)} {base sz:Nat} {e:TypeId} {v:Value} {n:Nat} {vs:List Value} (h:Bag w wk ls) (hown:wk.ownsRow base e sz v n vs) (hne:∀p∈ls,p.2.1≠e) (hb:w.heap.size≤base) (hg:wk.grownBy v' v.ownBlock):Bag w v' ls:=
 ⟨h.lat.grownBy hg (fun k hk=>QDl hb (hown.lt k hk).1),fun p hp=>QcT (h.blk p hp) hown (hne p hp) hg,h.low,h.nd⟩
end Go.Proofs.YtdhgpkdjdmlphaaGreat
