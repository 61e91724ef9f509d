/-
  Lemmas for the last text of this claim (part 10 of 20).
-/
import Derived.ArgAppend
import Derived.BigQuiet
import Derived.BigRegion
import Derived.ChangeOld
import Derived.Deep.RegionWith
import Derived.DeepKeys4
import Derived.JoinedCond
import Derived.LaidMore
import Derived.Laws.BytesArg
import Derived.Laws.CopyOwn
import Derived.Laws.Externs
import Derived.Laws.IdiomStrings
import Derived.Laws.Tables
import Derived.Lib.AppendStr
import Derived.Lib.AppendZerosOnto
import Derived.Lib.Mul64
import Derived.Lib.SlBytesConst
import Derived.LoopN
import Derived.Maps.OwnSet
import Derived.OpenShut
import Derived.OrdersHeld
import Derived.ProofKit
import Derived.Shelf.Spec.BitsCarry
import Derived.ShutString
import Derived.Test.YtdhgpkdjdmlphaaGreatProg
import Derived.Test.YtdhgpkdjdmlphaaGreatRows
import Derived.WalkKit
import Derived.WalkLawsBesides
import Derived.WalkSpells
import Derived.Test.YtdhgpkdjdmlphaaGreatPC
import Derived.Test.YtdhgpkdjdmlphaaGreatPE
import Derived.Test.YtdhgpkdjdmlphaaGreatPI
open Int renaming natCast_mul → QzS, toNat_natCast → QAh
open List renaming replicate → Qym, length_map → Qyn, getElem?_eq_getElem → Qyq, getD_eq_getElem?_getD → Qys, nil_append → Qyt, cons_append → Qyu, length_append → Qyv, take_of_length_le → Qyx, length_replicate → Qyy, getElem?_append_right → Qyz, mem_cons → QyA, getElem?_eq_some_iff → QyC, setIfInBounds_toArray → QyD, append_assoc → QyE, getElem?_map → QyF, getElem?_append_left → QyH, set_cons_zero → QyI, map_toArray → QyK, length_take → QyL, set_cons_succ → QyM, take_succ_eq_append_getElem → QyQ, map_cons → QyT, map_nil → QyU, append_nil → QyZ, length_drop → Qy0, map_replicate → Qy4, eq_nil_of_length_eq_zero → Qy5, map_append → Qy6, length_cons → Qy9, mem_map → Qzb, take_append_of_le_length → Qzf, drop_left' → Qzg, drop_of_length_le → Qzm, drop_zero → Qzn, getElem?_eq_none → Qzq, drop_append_of_le_length → Qzy, flatten_cons → Qzz, getElem?_drop → QzC, getElem_mem → QzH, flatMap_cons → QzI, drop_eq_getElem_cons → QzT, map_take → QzZ, getElem?_take → Qz8, drop_drop → QAf, take_left' → QAj, nodup_cons → QAk, take_zero → QAs
open Nat renaming le_refl → Qyw, lt_of_lt_of_le → QyG, mod_eq_of_lt → QyN, mod_lt → QyS, zero_add → QyY, le_trans → Qy3, div_add_mod → Qzh, le_mul_of_pos_right → Qzi, mul_comm → Qzj, lt_or_ge → Qzs, lt_of_le_of_lt → QzN, zero_mul → Qz6, add_mul → QAn
open Option renaming map_eq_some_iff → QzR, map_some → QzW
set_option linter.all false
namespace Go.Proofs.YtdhgpkdjdmlphaaGreat
open Go.RowKit
theorem Qec:∀(vs:List Value) (k off:Nat) (cells:List Value),off+vs.length≤cells.length→
 (vs.zipIdx k).foldl (fun (cs:Array Value) (x:Value×Nat)=>cs.setIfInBounds (off-k+x.2) x.1) cells.toArray=(Qan cells off vs).toArray∨off<k
 | [],k,off,cells,_=>.inl (by simp[Qan])
 | v :: vs,k,off,cells,h=>by
   rcases Qzs off k with hk|hk
   ·exact .inr hk
   left
   simp only[Qy9]at h
   have ih:=Qec vs (k+1) (off+1) (cells.set off v) (by simp;omega)
   rcases ih with ih|ih
   ·rw[List.zipIdx_cons,List.foldl_cons,show off-k+k=off by omega]
    simp only[QyD]
    rw[show off+1-(k+1)=off-k by omega]at ih
    rw[ih]
    congr 1
    rw[Qan,Qan,QyQ (by simp;omega),List.drop_set_of_lt (by omega)]
    simp only[List.take_set_of_le (Qyw off),List.getElem_set_self,QyE,Qyu,Qyt,Qy9,show off+1+vs.length=off+(vs.length+1) by omega]
   ·omega
theorem Qnf (vs cells:List Value) (off:Nat) (h:off+vs.length≤cells.length):
 vs.toArray.zipIdx.foldl (fun (cs:Array Value) (x:Value×Nat)=>cs.setIfInBounds (off+x.2) x.1) cells.toArray=(Qan cells off vs).toArray:=by
 rcases Qec vs 0 off cells h with h|h
 ·rw[←Array.foldl_toList,Array.toList_zipIdx]
  simpa using h
 ·omega
theorem Qc9 {P:Program} {t:TypeId} {zs:List Value} {fs:Array Field} {pl:List (Nat×Nat)} (hu:P.underlying t=some (.struct fs)) (hz:(P.info? t).bind (·.zero)=some (.agg zs.toArray))
 (hp:(fs.toList.mapM fun f=>(P.info? f.type).map fun i=>(f.offset,i.size))=some pl) (parts:List (Nat×Value)):P.built t parts=Instr.fill (pl.toArray[·]?) zs.toArray parts:=by
 cases hq:P.info? t with
 | none=>simp[hq]at hz
 | some it=>
   have hz':it.zero=some (.agg zs.toArray):=by simpa [hq] using hz
   have hc2:(Value.agg zs.toArray).cells=zs.toArray:=rfl
   unfold Program.built
   rw[hq,hu]
   simp only[hz',hp,hc2]
theorem QcL {place:Nat→Option (Nat×Nat)} {i off:Nat} {cells vs:List Value} {v:Value} {rest:List (Nat×Value)} (hv:v.cells=vs.toArray) (hpi:place i=some (off,vs.length)) (hfit:off+vs.length≤cells.length):
 Instr.fill place cells.toArray ((i,v) :: rest)=Instr.fill place (Qan cells off vs).toArray rest:=by
 simp only[Instr.fill,hpi,hv,List.size_toArray]
 rw[if_neg (by simp;omega),Qnf _ _ _ hfit]
theorem Qgm {place:Nat→Option (Nat×Nat)} {cells:Array Value}:Instr.fill place cells []=some cells:=rfl
section
variable {P:Program} {ops:Array Oper} {rest:List Oper} {o:Oper} {a:Act} {w:World} {Q:Exit→Act→World→Prop}
theorem QaB (hw:Region.wanted o (yielded ops a.tmps)=true) (ty:TypeId) (x:Operand) (ho:o.op= .load ty x) (g off:Nat) (vs:List Value) (hc:∀j v,vs[j]?=some v→w.cell? ⟨g,off+j,none⟩=some v)
 (hx:a.eval x= .pointer (some ⟨g,off,none⟩)) (d:TypeDesc) (hu:P.underlying ty=some d) (hd:Qbz d=true) (hi:(P.info? ty).map (·.size)=some vs.length)
 (h:wpList P ops Q rest (a.put o.dst (.agg vs.toArray)) w):wpList P ops Q (o :: rest) a w:=by
 refine BigFrame.wpList_want hw fun K hK=>?_
 unfold Oper.wp
 simp only[execOp,ho,hx,Instr.loadAt,Instr.sureAddr,Sem.run_bind,Sem.run_pure,Result.andThen_ok,Qbg w g off ty vs d hc hu hd hi]
 exact hK _ _ h
theorem Qao (hw:Region.wanted o (yielded ops a.tmps)=true) (t:TypeId) (parts:Array (Nat×Operand)) (ho:o.op= .build t parts) (vs:List Value) (hb:P.built t (parts.map fun (i,x)=>(i,a.eval x)).toList=some vs.toArray)
 (h:wpList P ops Q rest (a.put o.dst (.agg vs.toArray)) w):wpList P ops Q (o :: rest) a w:=
 BigFrame.wpList_want hw fun K hK=>wp_build t parts ho (by rw[hb];rfl) (by rw[hb];exact hK _ _ h)
end
theorem Qfv:(Tryz.prog.info? 30).map (·.size)=some 32:=by kernel_rfl
theorem Qdb {P:Program} {t:TypeId} {n k:Nat} {d:TypeDesc} (hu:P.underlying t=some d) (hd:Qbz d=true) (hs:(P.info? t).map (·.size)=some n) (zs r:List Value) (hz:(zs.drop k).take n=r) (w:World):
 (part t zs.toArray k).run P w= .ok (.agg r.toArray) w:=by
 have hs:(sizeOf t).run P w= .ok n w:=by
  cases hq:P.info? t with
  | none=>simp[hq]at hs
  | some inf=>
    have hsz:inf.size=n:=by simpa [hq] using hs
    simp[sizeOf,typeInfo,hq,hsz]
 have ha:(isAgg t).run P w= .ok true w:=by
  unfold isAgg
  simp only[Sem.run_bind,run_underlying hu]
  cases d<;>simp_all [Qbz]
 unfold part
 simp only[Sem.run_bind,ha,Result.andThen_ok,if_true,hs,Sem.run_pure]
 rw[←hz]
 simp
theorem Qcu {P:Program} {d n k:Nat} {t e:TypeId} {f:Field} {fs:List Field} (hf:f.type=t) (hu:P.underlying t=some (.array n e)) (hs:(P.info? t).map (·.size)=some n) (hs1:(P.info? e).map (·.size)=some 1) (he:P.underlying e=some (.int .u8))
 (hn:f.name≠ "_") {xs ys:List Value} {p q:List UInt8} (ho:f.offset=k) (hp:(xs.drop k).take n=p.map W8) (hq:(ys.drop k).take n=q.map W8) (hpl:p.length=n) (hql:q.length=n) (w:World):
 (Op.eqFields (d+2) xs.toArray ys.toArray (f :: fs)).run P w=if p==q then (Op.eqFields (d+2) xs.toArray ys.toArray fs).run P w else .ok false w:=by
 rw[Op.eqFields,if_pos hn]
 simp only[Sem.run_bind,hf,ho,Qdb hu rfl hs xs _ hp,Qdb hu rfl hs ys _ hq,Result.andThen_ok]
 rw[QaP w 0 W8 d t e n hu hs1 he rfl (Qhu _ _ he) p q hpl hql]
 simp only[Result.andThen_ok]
 cases p==q<;>simp
theorem Qbp {d:Nat} {f:Field} {fs:List Field} (hf:f.type=30) (hn:f.name≠ "_") {xs ys:List Value} {p q:List UInt8} {k:Nat} (ho:f.offset=k) (hp:(xs.drop k).take 32=p.map W8) (hq:(ys.drop k).take 32=q.map W8) (hpl:p.length=32) (hql:q.length=32) (w:World):
 (Op.eqFields (d+2) xs.toArray ys.toArray (f :: fs)).run Tryz.prog w=if p==q then (Op.eqFields (d+2) xs.toArray ys.toArray fs).run Tryz.prog w else .ok false w:=
 Qcu hf Tryz.underlying30 Qfv Qbv Tryz.underlying5 hn ho hp hq hpl hql w
theorem Qff {P:Program} {t:TypeId} {fs:Array Field} (hu:P.underlying t=some (.struct fs)) (hp:P.stoodInHeld t=false) (xs ys:Array Value) (w:World):
 (binOp .eql t (.agg xs) (.agg ys)).run P w=((Op.eqFields 9999 xs ys fs.toList).run P w).andThen fun b w'=>.ok (.bool b) w':=by
 have e:P.fieldsOf t=fs:=by unfold Program.fieldsOf;rw[hu]
 rw[run_eql_struct,run_equalIn_struct w 9999 t xs ys (by rw[e];exact hu) hp,e]
theorem Qhf {P:Program} {t:TypeId} {fs:Array Field} (hu:P.underlying t=some (.struct fs)) (hp:P.stoodInHeld t=false) (xs ys:Array Value) (w:World):
 (binOp .neq t (.agg xs) (.agg ys)).run P w=((Op.eqFields 9999 xs ys fs.toList).run P w).andThen fun b w'=>.ok (.bool (!b)) w':=by
 have e:P.fieldsOf t=fs:=by unfold Program.fieldsOf;rw[hu]
 rw[run_neq_struct,run_equalIn_struct w 9999 t xs ys (by rw[e];exact hu) hp,e]
theorem Qcq {d:Nat} {xs ys:Array Value} (w:World):(Op.eqFields d xs ys []).run Tryz.prog w= .ok true w:=by
 rw[Op.eqFields]
 simp
theorem Blk.cast {w:World} {g:Nat} {t:TypeId} {l l':List Value} (h:Blk w g t l) (e:l=l'):Blk w g t l':=e ▸ h
def subB (bs:List UInt8) (off n:Nat):List UInt8:=(bs.drop off).take n
def putB (bs:List UInt8) (off:Nat) (vs:List UInt8):List UInt8:=bs.take off++vs++bs.drop (off+vs.length)
theorem Qal {bs:List UInt8} {off n:Nat} (h:off+n≤bs.length):(subB bs off n).length=n:=by
 rw[subB,QyL,Qy0]
 omega
theorem Qbm {bs vs:List UInt8} {off:Nat} (h:off+vs.length≤bs.length):(putB bs off vs).length=bs.length:=by
 rw[putB,Qyv,Qyv,QyL,Qy0]
 omega
theorem Qb4 (bs vs:List UInt8) (off:Nat):Qan (bs.map W8) off (vs.map W8)=(putB bs off vs).map W8:=by
 rw[Qan,putB,Qyn,Qy6,Qy6,QzZ,List.map_drop]
theorem QcT (p q r:List UInt8) (off n:Nat) (hp:p.length=off) (hq:q.length=n):subB (p++(q++r)) off n=q:=by
 rw[subB,Qzg hp,QAj hq]
theorem QfR (q r:List UInt8) (n:Nat) (hq:q.length=n):subB (q++r) 0 n=q:=QcT [] q r 0 n rfl hq
theorem QgU (p q:List UInt8) (off n:Nat) (hp:p.length=off) (hq:q.length=n):subB (p++q) off n=q:=by
 have:=QcT p q [] off n hp hq
 rwa [QyZ]at this
theorem QlX {bs:List UInt8} {off n j:Nat} {v:UInt8} (h:(subB bs off n)[j]?=some v):bs[off+j]?=some v:=by
 rw[subB,Qz8]at h
 split at h
 ·rwa [QzC]at h
 ·cases h
theorem Qby (p q r v:List UInt8) (off:Nat) (hp:p.length=off) (hq:q.length=v.length):putB (p++(q++r)) off v=p++(v++r):=by
 rw[putB,QAj hp,←QAf,Qzg hp,Qzg hq,QyE]
theorem Qel (q r v:List UInt8) (hq:q.length=v.length):putB (q++r) 0 v=v++r:=Qby [] q r v 0 rfl hq
theorem Qek (p q v:List UInt8) (off:Nat) (hp:p.length=off) (hq:q.length=v.length):putB (p++q) off v=p++v:=by
 have:=Qby p q [] v off hp hq
 rwa [QyZ,QyZ]at this
theorem QlK (bs vs:List UInt8) (h:vs.length=bs.length):putB bs 0 vs=vs:=by
 rw[putB,QAs,Qyt,QyY,Qzm (by omega),QyZ]
theorem QgE {w:World} {g:Nat} {t:TypeId} {bs r:List UInt8} {off n:Nat} (hb:Blk w g t (bs.map W8)) (hr:subB bs off n=r):∀j v,(r.map W8)[j]?=some v→w.cell? ⟨g,off+j,none⟩=some v:=by
 intro j v hv
 rw[QyF,QzR]at hv
 obtain⟨x,hx,rfl⟩:=hv
 rw[←hr]at hx
 exact hb.cellD _ (by rw[QyF,QlX hx];rfl)
theorem QbN {w:World} {g:Nat} {t:TypeId} {bs r:List UInt8} {off n:Nat} (hb:Blk w g t (bs.map W8)) (hr:subB bs off n=r) (hn:r.length=n):RdB w (some ⟨g,off,none⟩) n r:=
 ⟨by rw[Qyn,hn],fun _=>⟨g,off,rfl,hb.lt,fun j u hu=>QgE hb hr j u hu⟩⟩
section
variable {P:Program} {ops:Array Oper} {rest:List Oper} {o:Oper} {a:Act} {w:World} {Q:Exit→Act→World→Prop}
theorem Qn4 (off n:Nat) (hw:Region.wanted o (yielded ops a.tmps)=true) {ty:TypeId} (x:Operand) (ho:o.op= .load ty x) {g:Nat} {t:TypeId} {bs r:List UInt8} (hb:Blk w g t (bs.map W8)) (hx:a.eval x= .pointer (some ⟨g,off,none⟩)) {d:TypeDesc} (hu:P.underlying ty=some d) (hd:Qbz d=true)
 (hi:(P.info? ty).map (·.size)=some n) (hr:subB bs off n=r) (hn:r.length=n) (h:wpList P ops Q rest (a.put o.dst (.agg (r.map W8).toArray)) w):wpList P ops Q (o :: rest) a w:=
 QaB hw ty x ho g off (r.map W8) (QgE hb hr) hx d hu hd (by rw[Qyn,hn];exact hi) h
theorem QeP (off n:Nat) {K:Act→Prop} {ty:TypeId} (x:Operand) (ho:o.op= .load ty x) {w0:World} {g:Nat} {t:TypeId} {bs r:List UInt8} (hb:Blk w0 g t (bs.map W8)) (hx:a.eval x= .pointer (some ⟨g,off,none⟩)) {d:TypeDesc} (hu:P.underlying ty=some d) (hd:Qbz d=true)
 (hi:(P.info? ty).map (·.size)=some n) (hr:subB bs off n=r) (hn:r.length=n) (h:K (a.put o.dst (.agg (r.map W8).toArray))):o.quiet P a (fun w'=>∃x,w'=grow w0 x) K:=
 Qbc ty x ho g off (r.map W8) (fun w' hw j v hv=>by obtain⟨y,rfl⟩:=hw;exact QgE (hb.later ⟨y,rfl⟩) hr j v hv) hx d hu hd (by rw[Qyn,hn];exact hi) h
theorem Qt1 (off n:Nat) (hgd:o.guard=none) (hd:o.dst=none) {ty:TypeId} (x y:Operand) (ho:o.op= .store ty x y) {g:Nat} {t:TypeId} {bs vs:List UInt8} (hg:Blk w g t (bs.map W8)) (hx:a.eval x= .pointer (some ⟨g,off,none⟩)) (hy:a.eval y= .agg (vs.map W8).toArray)
 (hi:(P.info? ty).map (·.size)=some n) (hn:vs.length=n) (hfit:off+n≤bs.length) (h:∀w',Blk w' g t ((putB bs off vs).map W8)→Only g w w'→wpList P ops Q rest a w'):wpList P ops Q (o :: rest) a w:=
 Qai hgd hd ty x y ho g off t _ (vs.map W8) hg hx hy (by rw[Qyn,hn];exact hi) (by rw[Qyn,Qyn];omega) (QaK _) (fun w' hb=>h w' (by rwa [Qb4]at hb))
theorem QfQ (n:Nat) (hgd:o.guard=none) (hd:o.dst=none) {ty:TypeId} (x y:Operand) (ho:o.op= .store ty x y) {g:Nat} {t:TypeId} {l:List Value} {vs:List UInt8} (hg:Blk w g t l) (hx:a.eval x= .pointer (some ⟨g,0,none⟩)) (hy:a.eval y= .agg (vs.map W8).toArray)
 (hi:(P.info? ty).map (·.size)=some n) (hn:vs.length=n) (hl:l.length=n) (h:∀w',Blk w' g t (vs.map W8)→Only g w w'→wpList P ops Q rest a w'):wpList P ops Q (o :: rest) a w:=
 Qai hgd hd ty x y ho g 0 t l (vs.map W8) hg hx hy (by rw[Qyn,hn];exact hi) (by rw[Qyn];omega) (QaK _) (fun w' hb=>h w' (by rwa [Qam _ _ (by rw[Qyn];omega)]at hb))
theorem QiZ (off m:Nat) (hgd:o.guard=none) (dd s:Operand) (dT sT:TypeId) (ho:o.op= .call { callee:=.builtin .copy,args:= #[dd,s],argTypes:= #[dT,sT] }) (elem:TypeId) (hu:P.underlying dT=some (.slice elem)) (hsz:(P.info? elem).map (·.size)=some 1)
 {g c:Nat} {t:TypeId} {bs:List UInt8} (hg:Blk w g t (bs.map W8)) {A:Option Addr} {c2:Nat} {vs:List UInt8} (hr:RdB w A m vs) (hd:a.eval dd= .slice (some ⟨g,off,none⟩) m c) (hs:a.eval s= .slice A m c2) (hfit:off+m≤bs.length)
 (h:∀w',Blk w' g t ((putB bs off vs).map W8)→Only g w w'→wpList P ops Q rest (a.put o.dst (.int .i64 ((m:Nat):Int))) w'):wpList P ops Q (o :: rest) a w:=
 Qat hgd dd s dT sT ho elem hu hsz g off m c t _ hg A m c2 (vs.map W8) hr (QaK _) hd hs (by rw[Qyn];exact hfit) (fun w' hb ho=>by
  rw[Qyx (by rw[Qyn,hr.len];exact Qyw _),Qb4]at hb
  rw[Nat.min_self]
  exact h w' hb ho)
end
def QeD (bs:List UInt8):List (Nat×List UInt8)→List UInt8
 | []=>bs
 | (off,vs) :: r=>QeD (putB bs off vs) r
theorem Qh9 (place:Nat→Option (Nat×Nat)):∀(parts:List (Nat×Nat×List UInt8)) (bs:List UInt8),(∀ p∈parts,place p.1=some (p.2.1,p.2.2.length)∧p.2.1+p.2.2.length≤bs.length)→
 Instr.fill place (bs.map W8).toArray (parts.map fun p=>(p.1,.agg (p.2.2.map W8).toArray))=some ((QeD bs (parts.map fun p=>(p.2.1,p.2.2))).map W8).toArray
 | [],bs,_=>rfl
 | (i,off,vs) :: r,bs,h=>by
   have h0:=h (i,off,vs) (by simp)
   rw[QyT,QcL (vs:=vs.map W8) (off:=off) rfl (by rw[Qyn];exact h0.1) (by rw[Qyn,Qyn];exact h0.2),Qb4,Qh9 place r (putB bs off vs) fun p hp=>?_]
   ·rfl
   ·have:=h p (by simp[hp])
    rw[Qbm h0.2]
    exact this
theorem QeN {P:Program} {t:TypeId} {n:Nat} {fs:Array Field} {pl:List (Nat×Nat)} (hu:P.underlying t=some (.struct fs)) (hz:(P.info? t).bind (·.zero)=some (.agg (Qym n (W8 0)).toArray))
 (hp:(fs.toList.mapM fun f=>(P.info? f.type).map fun i=>(f.offset,i.size))=some pl) (parts:List (Nat×Nat×List UInt8)) (hpl:∀p∈parts,pl.toArray[p.1]?=some (p.2.1,p.2.2.length)∧p.2.1+p.2.2.length≤n):
 P.built t (parts.map fun p=>(p.1,.agg (p.2.2.map W8).toArray))=some ((QeD (Qym n 0) (parts.map fun p=>(p.2.1,p.2.2))).map W8).toArray:=by
 rw[Qc9 hu hz hp,show Qym n (W8 0)=(Qym n (0:UInt8)).map W8 by rw[Qy4],Qh9 _ parts _ (fun p hp=>by rw[Qyy];exact hpl p hp)]
structure Bag (w wk:World) (ls:List (Nat×TypeId×List Value)):Prop where
 lat:Later w wk
 blk:∀p∈ls,Blk wk p.1 p.2.1 p.2.2
 low:∀p∈ls,w.heap.size≤p.1
 nd:(ls.map (·.1)).Nodup
section
variable {w wk v v1:World} {ls:List (Nat×TypeId×List Value)} {k:Nat} {t:TypeId} {l l':List Value}
theorem Bag.nth (h:Bag w wk ls) (i:Nat) (hi:ls[i]?=some (k,t,l)):Blk wk k t l:=h.blk (k,t,l) (List.mem_of_getElem? hi)
theorem Bag.at_low (h:Bag w wk ls) (i:Nat) (hi:ls[i]?=some (k,t,l)):w.heap.size≤k:=h.low (k,t,l) (List.mem_of_getElem? hi)
theorem Bag.later (h:Bag w wk ls) (j:Later wk v):Bag w v ls:=⟨h.lat.trans j,fun p hp=>(h.blk p hp).later j,h.low,h.nd⟩
theorem Bag.drew (h:Bag w wk ls):Bag w wk.drew ls:=h.later (Qad _)
theorem Bag.none (w:World):Bag w w []:=⟨Later.refl w,by simp,by simp,by simp⟩
theorem Bag.add (h:Bag w wk ls) (j:Later wk v) (hk:∀p∈ls,k≠p.1) (hl:w.heap.size≤k) (hb:Blk v k t l):Bag w v ((k,t,l) :: ls):=by
 have h1:=h.later j
 refine⟨h1.lat,?_,?_,?_⟩
 ·intro p hp
  rcases QyA.1 hp with rfl|hp
  ·exact hb
  ·exact h1.blk p hp
 ·intro p hp
  rcases QyA.1 hp with rfl|hp
  ·exact hl
  ·exact h1.low p hp
 ·rw[QyT,QAk]
  refine⟨fun hm=>?_,h1.nd⟩
  obtain⟨p,hp,e⟩:=Qzb.1 hm
  exact hk p hp e.symm
theorem Bag.write (h:Bag w wk ls) (i:Nat) (hi:ls[i]?=some (k,t,l)) (o:Only k wk v) (hb:Blk v k t l'):Bag w v (ls.set i (k,t,l')):=by
 refine⟨h.lat.only o (h.at_low i hi),?_,?_,?_⟩
 ·intro p hp
  obtain⟨j,hj⟩:=List.getElem?_of_mem hp
  rw[List.getElem?_set]at hj
  split at hj
  ·split at hj
   ·cases hj
    exact hb
   ·cases hj
  ·rename_i hne
   refine (h.blk p (List.mem_of_getElem? hj)).only o ?_
   intro e
   have h1:(ls.map (·.1))[i]?=some k:=by rw[QyF,hi];rfl
   have h2:(ls.map (·.1))[j]?=some k:=by rw[QyF,hj,←e];rfl
   have hlt:i<(ls.map (·.1)).length:=(QyC.1 h1).1
   exact hne ((List.getElem?_inj hlt h.nd).1 (h1.trans h2.symm))
 ·intro p hp
  rcases List.mem_or_eq_of_mem_set hp with hp|rfl
  ·exact h.low p hp
  ·exact h.at_low i hi
 ·have:(ls.set i (k,t,l')).map (·.1)=ls.map (·.1):=by
   rw[List.map_set]
   apply List.ext_getElem?
   intro j
   rw[List.getElem?_set]
   split
   ·rename_i e
    subst e
    split
    ·rw[QyF,hi];rfl
    ·rename_i hlt
     rw[Qzq (by omega)]
   ·rfl
  rw[this]
  exact h.nd
theorem Bag.push (h:Bag w wk ls) (j:Later wk v) (hk:wk.heap.size≤k) (o:Only k v v1) (hb:Blk v1 k t l):Bag w v1 ((k,t,l) :: ls):=by
 have h0:∀p∈ls,k≠p.1:=fun p hp e=>by have:=(h.blk p hp).lt;omega
 have hw:w.heap.size≤k:=by have:=h.lat.size;omega
 have h1:=h.later j
 refine⟨h1.lat.only o hw,?_,?_,?_⟩
 ·intro p hp
  rcases QyA.1 hp with rfl|hp
  ·exact hb
  ·exact (h1.blk p hp).only o (fun e=>h0 p hp e.symm)
 ·intro p hp
  rcases QyA.1 hp with rfl|hp
  ·exact hw
  ·exact h1.low p hp
 ·rw[QyT,QAk]
  refine⟨fun hm=>?_,h1.nd⟩
  obtain⟨p,hp,e⟩:=Qzb.1 hm
  exact h0 p hp e.symm
theorem Bag.drop (h:Bag w wk ls) (n:Nat):Bag w wk (ls.drop n):=
 ⟨h.lat,fun p hp=>h.blk p (List.mem_of_mem_drop hp),fun p hp=>h.low p (List.mem_of_mem_drop hp),by rw[List.map_drop];exact (List.drop_sublist n _).nodup h.nd⟩
end
theorem Qbi (w:World) (t:TypeId) (l:List Value):Bag w (w.alloc (.cells l.toArray t)) [(w.heap.size,t,l)]:=
 ⟨Qaa _ _,by intro p hp;simp at hp;subst hp;exact Blk.new w t l,by simp,by simp⟩
section
variable {α:Type}
theorem Qbj {F:α→List Value} {sz:Nat} (hF:∀x,(F x).length=sz):∀xs:List α,(xs.flatMap F).length=xs.length*sz
 | []=>by simp
 | x :: xs=>by rw[QzI,Qyv,hF,Qbj hF xs,Qy9,QAn];omega
theorem Qd1 {F:α→List Value} {sz:Nat} (hF:∀x,(F x).length=sz) (d:α) {i:Nat} {v:Value}:∀(xs:List α) (j:Nat),j<xs.length→(F (xs.getD j d))[i]?=some v→(xs.flatMap F)[j*sz+i]?=some v
 | [],j,hj,_=>by simp at hj
 | x :: xs,0,_,hv=>by
   have hv':(F x)[i]?=some v:=by simpa using hv
   have hi:i<(F x).length:=(QyC.1 hv').1
   rw[QzI,Qz6,QyY,QyH hi]
   exact hv'
 | x :: xs,j+1,hj,hv=>by
   rw[QzI,Qyz (by rw[hF,QAn];omega),hF]
   have:=Qd1 hF d (i:=i) xs j (by simpa using hj) (by simpa using hv)
   rw[show (j+1)*sz+i-sz=j*sz+i by rw[QAn];omega]
   exact this
theorem QqZ {F:α→List Value} {sz:Nat} (hF:∀x,(F x).length=sz) (d:α) (h0:0<sz) {q:Nat} {v:Value} {xs:List α} (h:(xs.flatMap F)[q]?=some v):q/sz<xs.length∧(F (xs.getD (q/sz) d))[q%sz]?=some v:=by
 have hq:q<xs.length*sz:=by
  have:=(QyC.1 h).1
  rwa [Qbj hF]at this
 have hj:q/sz<xs.length:=(Nat.div_lt_iff_lt_mul h0).2 hq
 refine⟨hj,?_⟩
 have hr:q%sz<(F (xs.getD (q/sz) d)).length:=by rw[hF];exact QyS _ h0
 have e:=Qd1 hF d xs (q/sz) hj (Qyq hr)
 rw[show q/sz*sz+q%sz=q by rw[Qzj];exact Qzh q sz,h]at e
 rw[Qyq hr,←Option.some.inj e]
theorem QjM {F:α→List Value} {sz:Nat} (hF:∀x,(F x).length=sz) (d:α) {off:Nat} {vs:List Value} {y:α}:∀(xs:List α) (j:Nat),j<xs.length→off+vs.length≤sz→F y=Qan (F (xs.getD j d)) off vs→Qan (xs.flatMap F) (j*sz+off) vs=(xs.set j y).flatMap F
 | [],j,hj,_,_=>by simp at hj
 | x :: xs,0,_,ho,hy=>by
   have hx:=hF x
   rw[QyI,QzI,QzI,hy,Qz6,QyY]
   simp only[Qan,List.getD_cons_zero]
   rw[Qzf (by omega),Qzy (by omega)]
   simp only[QyE]
 | x :: xs,j+1,hj,ho,hy=>by
   have ih:=QjM hF d (off:=off) (vs:=vs) (y:=y) xs j (by simpa using hj) ho (by simpa using hy)
   rw[QyM,QzI,QzI,←ih]
   have hx:=hF x
   simp only[Qan]
   rw[List.take_append,List.drop_append,Qyx (by rw[hx,QAn];omega),List.drop_eq_nil_of_le (by rw[hx,QAn];omega),hx,show (j+1)*sz+off-sz=j*sz+off by rw[QAn];omega,show (j+1)*sz+off+vs.length-sz=j*sz+off+vs.length by rw[QAn];omega]
   simp only[Qyt,QyE]
def RdF (F:α→List Value) (sz:Nat) (d:α) (w:World) (A:Option Addr) (n:Nat) (xs:List α):Prop:=
 xs.length=n∧(0<n→∃b o,A=some ⟨b,o,none⟩∧b<w.heap.size∧∀j i v,j<n→(F (xs.getD j d))[i]?=some v→w.cell? ⟨b,o+j*sz+i,none⟩=some v)
variable {F:α→List Value} {sz:Nat} {d:α} {w w':World} {A:Option Addr} {n:Nat} {xs:List α}
theorem RdF.later (h:RdF F sz d w A n xs) (hl:Later w w'):RdF F sz d w' A n xs:=by
 refine⟨h.1,fun hn=>?_⟩
 obtain⟨b,o,hA,hb,hc⟩:=h.2 hn
 exact⟨b,o,hA,QyG hb hl.size,fun j i v hj hv=>(hl.below.cell (p:=⟨b,o+j*sz+i,none⟩) hb).trans (hc j i v hj hv)⟩
theorem QlW (w:World):RdF F sz d w none 0 []:=⟨rfl,fun h=>absurd h (by omega)⟩
theorem RdF.at_ (h:RdF F sz d w A n xs) {k:Nat} (hk:k<n):
 ∃b o,A=some ⟨b,o,none⟩∧b<w.heap.size∧∀i v,(F (xs.getD k d))[i]?=some v→w.cell? ⟨b,o+k*sz+i,none⟩=some v:=by
 obtain⟨b,o,hA,hb,hc⟩:=h.2 (by omega)
 exact⟨b,o,hA,hb,fun i v hv=>hc k i v hk hv⟩
theorem RdF.cells (hF:∀x,(F x).length=sz) (h0:0<sz) {ad:Addr} (h:RdF F sz d w (some ad) n xs):∀q v,(xs.flatMap F)[q]?=some v→w.cell? (ad.add q)=some v:=by
 intro q v hv
 obtain⟨hj,hi⟩:=QqZ hF d h0 hv
 rw[h.1]at hj
 obtain⟨b,o,hA,_,hc⟩:=h.2 (QzN (Nat.zero_le _) hj)
 obtain rfl:ad=⟨b,o,none⟩:=by simpa using hA
 rw[Qc3]
 have:=hc _ _ _ hj hi
 rwa [Nat.add_assoc,show q/sz*sz+q%sz=q by rw[Qzj];exact Qzh q sz]at this
theorem Qk6 (hF:∀x,(F x).length=sz) {base c:Nat} {e:TypeId} (h:w.ownsRow base e sz (.slice A n c) n (xs.flatMap F)) (hn:xs.length=n):RdF F sz d w A n xs:=by
 refine⟨hn,fun h0=>?_⟩
 rcases h.2 with ⟨_,hz⟩|⟨g,cap,cur,hvv,hb,hh,hnc,hm,hs,ht⟩
 ·omega
 ·cases hvv
  refine⟨g,0,rfl,(h.lt g rfl).2,fun j i v hj hv=>?_⟩
  have hg:=h.cells (g:=g) rfl (j*sz+i) v (Qd1 hF d xs j (by omega) hv)
  rw[Qc3]at hg
  rw[QyY]at hg ⊢
  exact hg
theorem Qty (hF:∀x,(F x).length=sz) {g:Nat} {t:TypeId} (h:Blk w g t (xs.flatMap F)) (hn:xs.length=n):RdF F sz d w (some ⟨g,0,none⟩) n xs:=by
 refine⟨hn,fun _=>⟨g,0,rfl,h.lt,fun j i v hj hv=>?_⟩⟩
 rw[QyY]
 exact h.cellD _ (Qd1 hF d xs j (by omega) hv)
theorem QmX {base:Nat} {e:TypeId} {v:Value} {vs:List Value} (h:w.ownsRow base e sz v n vs):∃A c,v= .slice A n c∧n≤c:=by
 rcases h.2 with ⟨rfl,rfl⟩|⟨g,cap,cur,rfl,_,_,hnc,_⟩
 ·exact⟨none,0,rfl,Qyw _⟩
 ·exact⟨_,_,rfl,hnc⟩
theorem Qet {base:Nat} {e:TypeId} {v:Value} {vs:List Value} (h:w.ownsRow base e sz v n vs) (hl:Later w w'):w'.ownsRow base e sz v n vs:=
 h.kept (row:=none) ⟨hl.below.os,hl.below.tape,hl.below.output,hl.size,fun k hk _=>hl.below.block k hk⟩ (by cases v.ownBlock<;>simp)
theorem QnP (hF:∀x,(F x).length=sz) (h0:0<sz) (d:α) (n:Nat):madeCells (F d).toArray (n*sz)=((Qym n d).flatMap F).toArray:=by
 have hl:=Qbj hF (Qym n d)
 rw[Qyy]at hl
 apply Array.ext
 ·simp[madeCells,hl]
 ·intro i h1 h2
  have hi:i<n*sz:=by simpa [madeCells] using h1
  have hj:i/sz<n:=(Nat.div_lt_iff_lt_mul h0).2 hi
  have hr:i%sz<(F d).length:=by rw[hF];exact QyS _ h0
  have hg:(Qym n d).getD (i/sz) d=d:=by rw[Qys,List.getElem?_replicate,if_pos hj];rfl
  have e:=Qd1 hF d (Qym n d) (i/sz) (by rw[Qyy];exact hj) (by rw[hg];exact Qyq hr)
  rw[show i/sz*sz+i%sz=i by rw[Qzj];exact Qzh i sz]at e
  have e2:=(QyC.1 e).2
  simp only[madeCells,Array.getElem_map,Array.getElem_range,List.getElem_toArray,List.size_toArray,hF]
  rw[e2]
  rw[getElem!_pos _ _ (by rw[List.size_toArray];exact hr)]
  rfl
end
section
variable {P:Program} {ops:Array Oper} {rest:List Oper} {o:Oper} {a:Act} {w:World} {Q:Exit→Act→World→Prop} {α:Type} {F:α→List Value} {sz:Nat} {d:α}
theorem QgL (hF:∀x,(F x).length=sz) (hF1:∀x,∀u∈F x,u.oneCell'=true) (h0:0<sz) (hgd:o.guard=none) (s x:Operand) (t:TypeId) (ho:o.op= .call { callee:=.builtin .append,args:= #[s,x],argTypes:= #[t,t] })
 (e:TypeId) (z:Value) (bytes:Nat) (ht:P.underlying t=some (.slice e)) (hinfo:(P.info? e).map (fun i=>(i.zero,i.size,i.bytes))=some (some z,sz,bytes)) (hzs:z.cells.size=sz)
 (w0:World) (v:Value) (n:Nat) (vs:List Value) (hown:w.ownsRow w0.heap.size e sz v n vs) (hl:Later w0 w)
 (A:Option Addr) (m c:Nat) (xs:List α) (hr:RdF F sz d w A m xs) (hs:a.eval s=v) (hx:a.eval x= .slice A m c) (hsz:(n+m)*bytes≤140737488355328) (hby:0<bytes)
 (h:∀A' c' w',w'.ownsRow w0.heap.size e sz (.slice A' (n+m) c') (n+m) (vs++xs.flatMap F)→Later w0 w'→w.grownBy w' v.ownBlock→wpList P ops Q rest (a.put o.dst (.slice A' (n+m) c')) w'):
 wpList P ops Q (o :: rest) a w:=by
 obtain⟨i,hi,hz,hsize,hbytes⟩:=info_parts hinfo
 have hnm:n+m≤140737488355328:=Qy3 (Qzi _ hby) hsz
 have hmax:n+m≤maxLen:=by unfold maxLen;omega
 have hfin:∀v' w',(Builtin.append_ #[t,t] o.type #[v,.slice A m c]).run P w= .ok v' w'→w'.ownsRow w0.heap.size e sz v' (n+m) (vs++xs.flatMap F)→w.grownBy w' v.ownBlock→wpList P ops Q (o :: rest) a w:=by
  intro v' w' hrun hown' hg
  refine wpList_plain hgd fun K hK=>?_
  unfold Oper.wp execOp
  simp only[ho,resolve,invoke,builtin,Sem.run_bind,Sem.run_pure,Result.andThen_ok,QyK,QyT,QyU,hs,hx,hrun]
  have hlat:Later w0 w':=hl.grownBy hg (fun k hk=>(hown.lt k hk).1)
  obtain⟨A',c',rfl,_⟩:=QmX hown'
  exact hK _ _ (h A' c' w' hown' hlat hg)
 have hlen:(xs.flatMap F).length=m*sz:=by rw[Qbj hF,hr.1]
 cases A with
 | some ad=>
   have h1:∀u∈xs.flatMap F,u.oneCell'=true:=by
    intro u hu
    obtain⟨x,_,hx⟩:=List.mem_flatMap.1 hu
    exact hF1 x u hx
   obtain⟨v',w',hrun,h2,h3,_⟩:=run_append_own (P:=P) w w0.heap.size t o.type e i z sz bytes ht hi hz hsize hbytes hzs h0 v n vs hown ad m c _ hlen (hr.cells hF h0) h1 hmax hsz hl.size
   exact hfin v' w' hrun h2 h3
 | none=>
   have hm:m=0:=by
    rcases Nat.eq_zero_or_pos m with h0|h0
    ·exact h0
    ·obtain⟨b,off,hA,_⟩:=hr.2 h0
     cases hA
   subst hm
   have hn:xs=[]:=Qy5 hr.1
   subst hn
   have hrun:(Builtin.append_ #[t,t] o.type #[v,.slice none 0 c]).run P w= .ok v w:=by
    rcases hown.2 with ⟨rfl,rfl⟩|⟨g,cap,cur,rfl,_,_,hnc,_⟩
    ·simp[Builtin.append_,run_underlying ht,sizeOf,typeInfo,hi,Builtin.lenOf,Builtin.firstCells]
    ·simp[Builtin.append_,run_underlying ht,sizeOf,typeInfo,hi,Builtin.lenOf,Builtin.firstCells,hnc,storeCells]
   exact hfin v w hrun (by simpa using hown) (World.grownBy.refl w _)
theorem Qin (hF:∀x,(F x).length=sz) (h0:0<sz) (d:α) (hgd:o.guard=none) (l c:Operand) (t:TypeId) (ho:o.op=Op.makeSlice t l c) (e:TypeId) (bytes:Nat) (ht:P.underlying t=some (.slice e))
 (hinfo:(P.info? e).map (fun i=>(i.zero,i.size,i.bytes))=some (some (.agg (F d).toArray),sz,bytes)) (kl kc:IntKind) (L C:Int) (n:Nat) (hl:a.eval l= .int kl L) (hc:a.eval c= .int kc C) (hL:L=(n:Int)) (hC:C=(n:Int))
 (hby:0<bytes) (hsz:n*bytes≤140737488355328) (h:∀w',Blk w' w.heap.size e ((Qym n d).flatMap F)→Later w w'→wpList P ops Q rest (a.put o.dst (.slice (some ⟨w.heap.size,0,none⟩) n n)) w'):
 wpList P ops Q (o :: rest) a w:=by
 obtain⟨i,hi,hz,hsize,hbytes⟩:=info_parts hinfo
 have hn:n≤140737488355328:=Qy3 (Qzi _ hby) hsz
 refine wpList_plain hgd fun K hK=>?_
 have hb:((i.bytes:Int)*(n:Int))≤281474976710656:=by
  rw[hbytes,←QzS,Qzj]
  omega
 have hr:=run_make (P:=P) w t e i _ ht hi hz kl kc n n (by omega) (Int.le_refl _) hb (by omega)
 have hcells:(Value.agg (F d).toArray).cells=(F d).toArray:=rfl
 simp only[QAh,hsize,hcells,QnP hF h0 d]at hr
 subst hL
 subst hC
 unfold Oper.wp
 simp only[execOp,ho,hl,hc,Sem.run_bind,hr,Result.andThen_ok,Sem.run_pure]
 exact hK _ _ (h _ (Blk.new w e _) (Qaa _ _))
end
section
variable {P:Program}
theorem Qh1 {t e:TypeId} {sz:Nat} {z v:Value} {vs:List Value} (ht:P.underlying t=some (.slice e)) (hz:(P.info? e).map (fun i=>(i.zero,i.size))=some (some z,sz)) (hs0:0<sz) (hsm:sz≤65536) (hv:v.cells=vs.toArray) (hvl:vs.length=sz) (w:World):
 (Instr.buildSlice t 1 #[(0,v)]).run P w= .ok (.slice (some ⟨w.heap.size,0,none⟩) 1 1) (w.alloc (.cells vs.toArray e)):=by
 cases hi:P.info? e with
 | none=>simp[hi]at hz
 | some i=>
   simp only[hi,QzW,Option.some.injEq,Prod.mk.injEq]at hz
   obtain⟨h1,h2⟩:=hz
   have hso:(sizeOf e).run P w= .ok sz w:=by simp[sizeOf,typeInfo,hi,h2]
   have hzv:(zeroValue e).run P w= .ok z w:=by simp[zeroValue,typeInfo,hi,h1]
   have hl:((Array.range (1*sz)).map fun x=>z.cells[x%z.cells.size]!)=((Array.range (1*sz)).map fun x=>z.cells[x%z.cells.size]!).toList.toArray:=rfl
   have hll:((Array.range (1*sz)).map fun x=>z.cells[x%z.cells.size]!).toList.length=sz:=by simp
   have hf:Instr.fill (fun i=>some (i*sz,sz)) ((Array.range (1*sz)).map fun x=>z.cells[x%z.cells.size]!) [(0,v)]=some vs.toArray:=by
    rw[hl]
    rw[QcL (vs:=vs) (off:=0) hv (by rw[hvl,Qz6]) (by rw[hll];omega),Qgm,Qam _ _ (by rw[hll,hvl])]
   unfold Instr.buildSlice
   simp only[Sem.run_bind,run_underlying ht,Result.andThen_ok,hso,Nat.one_mul]
   rw[if_neg (by omega),if_neg (by omega)]
   simp only[Nat.one_mul]at hf
   simp only[Sem.run_bind,hzv,Result.andThen_ok,Sem.run_pure,hf]
   simp[newRow]
end
section
variable {P:Program} {ops:Array Oper} {rest:List Oper} {o:Oper} {a:Act} {w:World} {Q:Exit→Act→World→Prop}
theorem Qjb (hw:Region.wanted o (yielded ops a.tmps)=true) (t:TypeId) (x:Operand) (ho:o.op= .buildSlice t 1 #[(0,x)]) (e:TypeId) (sz:Nat) (z:Value) (bs:List UInt8) (ht:P.underlying t=some (.slice e)) (hz:(P.info? e).map (fun i=>(i.zero,i.size))=some (some z,sz)) (hs0:0<sz) (hsm:sz≤65536)
 (hbl:bs.length=sz) (hx:a.eval x= .agg (bs.map W8).toArray)
 (h:wpList P ops Q rest (a.put o.dst (.slice (some ⟨w.heap.size,0,none⟩) 1 1)) (w.alloc (.cells (bs.map W8).toArray e))):wpList P ops Q (o :: rest) a w:=
 BigFrame.wpList_want hw fun K hK=>by
  have hr:=Qh1 (v:=.agg (bs.map W8).toArray) ht hz hs0 hsm rfl (by rw[Qyn,hbl]) w
  unfold Oper.wp
  simp only[execOp,ho,QyK,QyT,QyU,hx,Sem.run_bind,hr,Result.andThen_ok,Sem.run_pure]
  exact hK _ _ h
end
def RdK (sz:Nat) (w:World) (A:Option Addr) (n:Nat) (xs:List (List UInt8)):Prop:=
 xs.length=n∧(0<n→∃b o,A=some ⟨b,o,none⟩∧b<w.heap.size∧∀j i v,j<n→((xs.getD j []).map W8)[i]?=some v→w.cell? ⟨b,o+j*sz+i,none⟩=some v)
theorem RdK.later {sz:Nat} {w w':World} {A:Option Addr} {n:Nat} {xs:List (List UInt8)} (h:RdK sz w A n xs) (hl:Later w w'):RdK sz w' A n xs:=by
 refine⟨h.1,fun hn=>?_⟩
 obtain⟨b,o,hA,hb,hc⟩:=h.2 hn
 exact⟨b,o,hA,QyG hb hl.size,fun j i v hj hv=>(hl.below.cell (p:=⟨b,o+j*sz+i,none⟩) hb).trans (hc j i v hj hv)⟩
theorem Qi2 {sz i:Nat} {v:UInt8}:∀(xs:List (List UInt8)) (j:Nat),(∀ x∈xs,x.length=sz)→j<xs.length→(xs.getD j [])[i]?=some v→xs.flatten[j*sz+i]?=some v
 | [],j,_,h,_=>by simp at h
 | x :: xs,j,hl,hj,hv=>by
   have hx:=hl x (by simp)
   cases j with
   | zero=>
     have hv':x[i]?=some v:=by simpa using hv
     have hi:i<x.length:=(QyC.1 hv').1
     rw[Qzz,Qz6,QyY,QyH hi]
     exact hv'
   | succ j=>
     rw[Qzz,Qyz (by rw[hx,QAn];omega),hx]
     have:=Qi2 (sz:=sz) (i:=i) xs j (fun y hy=>hl y (by simp[hy])) (by simpa using hj) (by simpa using hv)
     rw[show (j+1)*sz+i-sz=j*sz+i by rw[QAn];omega]
     exact this
theorem QnA {sz:Nat} {w:World} {base:Nat} {e:TypeId} {A:Option Addr} {n c:Nat} {xs:List (List UInt8)} (h:w.ownsRow base e sz (.slice A n c) n (xs.flatten.map W8)) (hn:xs.length=n) (hl:∀x∈xs,x.length=sz):RdK sz w A n xs:=by
 refine⟨hn,fun h0=>?_⟩
 rcases h.2 with ⟨_,hz⟩|⟨g,cap,cur,hvv,hb,hh,hnc,hm,hs,ht⟩
 ·omega
 ·cases hvv
  refine⟨g,0,rfl,(h.lt g rfl).2,fun j i v hj hv=>?_⟩
  rw[QyF,QzR]at hv
  obtain⟨x,hx,rfl⟩:=hv
  have hg:=h.cells (g:=g) rfl (j*sz+i) (W8 x) (by rw[QyF,Qi2 xs j hl (by omega) hx];rfl)
  rw[Qc3]at hg
  rw[QyY]at hg ⊢
  exact hg
theorem RdK.at_ {sz:Nat} {w:World} {A:Option Addr} {n:Nat} {xs:List (List UInt8)} (h:RdK sz w A n xs) {k:Nat} (hk:k<n):
 ∃b o,A=some ⟨b,o,none⟩∧b<w.heap.size∧∀j v,((xs.getD k []).map W8)[j]?=some v→w.cell? ⟨b,o+k*sz+j,none⟩=some v:=by
 obtain⟨b,o,hA,hb,hc⟩:=h.2 (by omega)
 exact⟨b,o,hA,hb,fun j v hv=>hc k j v hk hv⟩
theorem RdK.sub {sz:Nat} {w:World} {A:Option Addr} {n:Nat} {xs:List (List UInt8)} (h:RdK sz w A n xs) {k:Nat} (hk:k<n):
 ∃b o,A=some ⟨b,o,none⟩∧b<w.heap.size∧∀(w':World),Later w w'→∀(off m:Nat) (r:List UInt8),subB (xs.getD k []) off m=r→∀j v,(r.map W8)[j]?=some v→w'.cell? ⟨b,o+k*sz+off+j,none⟩=some v:=by
 obtain⟨b,o,hA,hb,hc⟩:=h.2 (by omega)
 refine⟨b,o,hA,hb,fun w' hl off m r hr j v hv=>?_⟩
 rw[QyF,QzR]at hv
 obtain⟨x,hx,rfl⟩:=hv
 rw[←hr]at hx
 refine (hl.below.cell (p:=⟨b,o+k*sz+off+j,none⟩) hb).trans ?_
 have:=hc k (off+j) (W8 x) hk (by rw[QyF,QlX hx];rfl)
 rwa [←Nat.add_assoc]at this
theorem QfM {w:World} {base:Nat} {e:TypeId} {sz:Nat} {v:Value} {n:Nat} {vs:List Value} (h:w.ownsRow base e sz v n vs):∃A c,v= .slice A n c∧n≤c:=by
 rcases h.2 with ⟨rfl,rfl⟩|⟨g,cap,cur,rfl,_,_,hnc,_⟩
 ·exact⟨none,0,rfl,Qyw _⟩
 ·exact⟨_,_,rfl,hnc⟩
theorem Qci {w w':World} {base:Nat} {e:TypeId} {sz:Nat} {v:Value} {n:Nat} {vs:List Value} (h:w.ownsRow base e sz v n vs) (hl:Later w w'):w'.ownsRow base e sz v n vs:=
 h.kept (row:=none) ⟨hl.below.os,hl.below.tape,hl.below.output,hl.size,fun k hk _=>hl.below.block k hk⟩ (by cases v.ownBlock<;>simp)
theorem Qrr {w:World} {base g:Nat} {e:TypeId} {sz N:Nat} {l:List Value} (h:Blk w g e l) (hb:base≤g) (hl:l.length=N*sz) (hm:N≤maxLen):w.ownsRow base e sz (.slice (some ⟨g,0,none⟩) 0 N) 0 []:=
 ⟨by simp,.inr ⟨g,N,l.toArray,rfl,hb,h,Nat.zero_le _,hm,by simp[hl],by simp⟩⟩
theorem Qcf {w w':World} {base g sz:Nat} {e t:TypeId} {v:Value} {n:Nat} {vs l:List Value} (hb:Blk w g t l) (h:w.ownsRow base e sz v n vs) (hne:t≠e) (hg:w.grownBy w' v.ownBlock):Blk w' g t l:=by
 refine (hg.block g hb.lt ?_).trans hb
 rcases h.2 with ⟨rfl,_⟩|⟨g2,c2,cur2,rfl,_,hh2,_⟩
 ·simp[Value.ownBlock]
 ·intro he
  simp only[Value.ownBlock,Option.some.injEq]at he
  subst he
  exact hb.ne_type (l':=cur2.toList) (t':=e) hh2 hne rfl
theorem Qfj {w w':World} {base k sz:Nat} {e t:TypeId} {v:Value} {n:Nat} {vs l:List Value} (h:w.ownsRow base e sz v n vs) (hb:Blk w k t l) (hne:t≠e) (ho:Only k w w'):w'.ownsRow base e sz v n vs:=by
 refine h.kept ho ?_
 rcases h.2 with ⟨rfl,_⟩|⟨g2,c2,cur2,rfl,_,hh2,_⟩
 ·exact .inl rfl
 ·refine .inr fun he=>?_
  simp only[Value.ownBlock,Option.some.injEq]at he
  subst he
  exact hb.ne_type (l':=cur2.toList) (t':=e) hh2 hne rfl
theorem QfG {w w':World} {b1 b2 s1 s2:Nat} {e1 e2:TypeId} {v1 v2:Value} {n1 n2:Nat} {x1 x2:List Value} (h1:w.ownsRow b1 e1 s1 v1 n1 x1) (h2:w.ownsRow b2 e2 s2 v2 n2 x2) (hne:e1≠e2) (hg:w.grownBy w' v2.ownBlock):
 w'.ownsRow b1 e1 s1 v1 n1 x1:=by
 refine h1.kept hg ?_
 rcases h1.2 with ⟨rfl,_⟩|⟨g1,c1,cur1,rfl,_,hh1,_⟩
 ·exact .inl rfl
 ·right
  rcases h2.2 with ⟨rfl,_⟩|⟨g2,c2,cur2,rfl,_,hh2,_⟩
  ·simp[Value.ownBlock]
  ·intro hb
   simp only[Value.ownBlock,Option.some.injEq]at hb
   subst hb
   rw[hh1]at hh2
   injection hh2 with hh2
   injection hh2 with _ h
   exact hne h
theorem Bag.grown {w wk v':World} {ls:List (Nat×TypeId×List Value)} {base sz:Nat} {e:TypeId} {v:Value} {n:Nat} {vs:List Value} (h:Bag w wk ls) (hown:wk.ownsRow base e sz v n vs) (hne:∀p∈ls,p.2.1≠e) (hb:w.heap.size≤base) (hg:wk.grownBy v' v.ownBlock):Bag w v' ls:=
 ⟨h.lat.grownBy hg (fun k hk=>Qy3 hb (hown.lt k hk).1),fun p hp=>Qcf (h.blk p hp) hown (hne p hp) hg,h.low,h.nd⟩
end Go.Proofs.YtdhgpkdjdmlphaaGreat
namespace Go.Proofs.YtdhgpkdjdmlphaaGreat
open Go.RowKit
open Go.BigFrame
theorem of_9 (w:World):Calls Tryz.prog 93 #[.int .u64 9] w fun e w'=>e= .returned (E 9)∧Later w w':=Qn1 9 (by decide) w
theorem QvQ (w:World):Calls Tryz.prog 92 #[E 9] w fun e w'=>e= .returned (.agg ((nb 9).map W8).toArray)∧Later w w':=by
 have:=Qgw 9 (by decide) w
 rwa [show 9%P25=9 by decide,BB]at this
set_option maxRecDepth 100000 in
set_option maxHeartbeats 2000000 in
theorem Qna (A:Option Addr) (n c:Nat) (ks:List UInt8) (w:World) (hk:RdB w A n ks) (hn:n≤140737488355328):
 Calls Tryz.prog 56 #[.slice A n c] w fun e w'=>e= .returned (.tuple #[.agg ((QcU ks (nb 9)).map W8).toArray,.int .i64 (QdD ks (nb 9):Nat)])∧Later w w':=by
 have B0:=Qbi w 30 (Qym 32 (Value.int .u8 0))
 have cM:=hid (fun (w:World) g d h1 h2=>Qiy A (some ⟨g,0,none⟩) n c 32 d ks (nb 9) w h1 h2 hn (by omega))
 have hml:=Qbk ks (nb 9)
 have h9:=Qca 9
 have cB:=hid QvQ
 generalize QcU ks (nb 9)=M at *
 generalize QdD ks (nb 9)=e9 at *
 generalize nb 9=N9 at *
 go_enter Tryz.func56,Tryz.ntmps56
 go_wp2_with fail
 generalize hW:w.alloc _=w0
 replace B0:Bag w w0 [(w.heap.size,30,Qym 32 (Value.int .u8 0))]:=by rw[←hW];exact Qbi w 30 (Qym 32 (Value.int .u8 0))
 clear hW
 (with_reducible refine (of_9 _).mono ?_);rintro e w1 ⟨rfl,hl1⟩
 go_wp2_with (first
  | (go_at_call 92;(with_reducible refine (cB.out _).mono ?_);rintro e w2 ⟨rfl,hl2⟩)
  | (refine QaV rfl rfl _ _ rfl (Blk.new w2 _ (Qym 32 (.int .u8 0))) rfl rfl h9 rfl ?_;intro w3 hb3 ho3)
  | fail)
 have B1:=B0.push ((hl1.trans hl2).trans (Qaa w2 _)) (hl1.trans hl2).size ho3 hb3
 (with_reducible refine (cM.out _ _ _ (hk.later B1.lat) (QbY (B1.nth 0 rfl) h9)).mono ?_);rintro e w4 ⟨rfl,hl4⟩
 go_wp2_with (first
  | (refine QaV rfl rfl _ _ rfl ((B1.later hl4).nth 1 rfl) rfl rfl hml rfl ?_;intro w5 hb5 ho5)
  | fail)
 exact bodyPost_ret (Qah rfl _ _ _ _ _ _ hb5 rfl Tryz.underlying30 rfl (by rw[Qyn,hml];exact Qbn)) rfl ⟨rfl,((B1.later hl4).write 1 rfl ho5 hb5).lat⟩
def Qea:List (List UInt8)→List UInt8→List UInt8×Nat
 | [],at_=>(at_,0)
 | k :: ks,at_=>if QdD k at_=0 then Qea ks (QcU k at_) else (Qym 32 0,QdD k at_)
def Qcv (us:List UInt8) (ps:List (List UInt8)):List UInt8×Nat:=
 if us.length=32∧∀p∈ps,p.length=32 then Qea ps (nb (QcF us)) else (Qym 32 0,2)
theorem QeB:∀(ps:List (List UInt8)) (at_:List UInt8),at_.length=32→(Qea ps at_).1.length=32
 | [],_,h=>h
 | k :: ks,at_,_=>by
   unfold Qea
   split
   ·exact QeB ks _ (Qbk _ _)
   ·simp
theorem Qij (us:List UInt8) (ps:List (List UInt8)):(Qcv us ps).1.length=32:=by
 unfold Qcv
 split
 ·exact QeB _ _ (Qca _)
 ·simp
theorem Qs5 (us:List UInt8):QcF us<P25:=by
 unfold QcF
 split
 ·exact QyS _ Qbw
 ·exact Qbw
theorem QoM (ps:List (List UInt8)) (k:Nat) (h:k<ps.length):ps.drop k=ps.getD k [] :: ps.drop (k+1):=by
 rw[QzT h,Qys,Qyq h]
 rfl
theorem QlG (ps:List (List UInt8)) (h:∀j,j<ps.length→(ps.getD j []).length=32):∀p∈ps,p.length=32:=by
 intro p hp
 obtain⟨j,hj,e⟩:=List.getElem_of_mem hp
 have:=h j hj
 rw[Qys,Qyq hj]at this
 rw[←e]
 exact this
theorem Qnb (us:List UInt8) (ps:List (List UInt8)) (k:Nat) (h:k<ps.length) (hk:(ps.getD k []).length≠32):Qcv us ps=(Qym 32 0,2):=by
 rw[Qcv,if_neg]
 rintro⟨_,ha⟩
 apply hk
 rw[Qys,Qyq h]
 exact ha _ (QzH h)
set_option maxRecDepth 100000 in
set_option maxHeartbeats 4000000 in
theorem QpI (A B:Option Addr) (n c m d:Nat) (us:List UInt8) (ps:List (List UInt8)) (w:World) (hu:RdB w A n us) (hp:Parts w (fun _=>False) B m ps) (hn:n≤140737488355328) (hm:m≤140737488355328):
 Calls Tryz.prog 57 #[.slice A n c,.slice B m d] w fun e w'=>e= .returned (.tuple #[.agg ((Qcv us ps).1.map W8).toArray,.int .i64 ((Qcv us ps).2:Nat)])∧Later w w':=by
 have hul:=hu.len
 have hpl:=hp.len
 have B0:=Qbi w 30 (Qym 32 (Value.int .u8 0))
 have cU:=hid (fun w h=>Qlv A n c us w h hn)
 by_cases hn32:n=32
 ·subst hn32
  have eU:Qc1 us=0:=by rw[Qc1,if_pos (by omega)]
  rw[eU]at cU
  have cB:Hid (∀ w,Calls Tryz.prog 92 #[E (QcF us)] w fun e w'=>e= .returned (.agg ((nb (QcF us)).map W8).toArray)∧Later w w'):=hid (by
   intro w
   have:=Qgw (QcF us) (QnE us) w
   rwa [QyN (Qs5 us),BB]at this)
  have hR:=hid (fun (h:∀p∈ps,p.length=32)=>show Qcv us ps=Qea ps (nb (QcF us)) by rw[Qcv,if_pos ⟨hul,h⟩])
  have hbad:=hid (fun k h hk=>Qnb us ps k h hk)
  generalize hCR:Qcv us ps=CR at *
  generalize QcF us=x1 at *
  go_enter Tryz.func57,Tryz.ntmps57
  go_wp2_with fail
  generalize hW:w.alloc _=w0
  replace B0:Bag w w0 [(w.heap.size,30,Qym 32 (Value.int .u8 0))]:=by rw[←hW];exact Qbi w 30 (Qym 32 (Value.int .u8 0))
  clear hW
  (with_reducible refine (cU.out _ (hu.later B0.lat)).mono ?_);rintro e w1 ⟨rfl,j1⟩
  go_wp2_with (first
   | (refine Qas rfl rfl _ _ rfl (Blk.new w1 _ (Qym 4 (.int .u64 0))) rfl rfl rfl ?_;intro w2 hb2 ho2)
   | fail)
  have B1:=B0.push (j1.trans (Qaa w1 _)) j1.size ho2 hb2
  clear j1 hb2 ho2 B0 cU hCR
  generalize w1.heap.size=g6 at *
  go_loopw [24] (fun i wr=>∃k:Nat,k≤m∧i= .int .i64 k∧Hid (∀ j,j<k→(ps.getD j []).length=32)∧Bag w wr [(g6,211,EL x1),(w.heap.size,30,Qym 32 (Value.int .u8 0))]) (fun i _=>m-(intOf i).toNat)
  case atStart=>exact⟨0,by omega,rfl,hid (fun j h=>by omega),B1⟩
  case round=>
   clear B1
   obtain⟨k,hk,rfl,hall,B1⟩:=hrel
   by_cases hlt:k<m
   ·obtain⟨b,o,Ak,nk,ck,rfl,hb,hck,hcap,hrd,_⟩:=(hp.later B1.lat).at_ hlt
    have hlen:=hrd.len
    have hb2:=hid (fun h=>hbad.out k (by omega) h)
    rw[hlen]at hb2
    have hstep:Hid (nk=32→∀j,j<k+1→(ps.getD j []).length=32):=hid (fun h j hj=>by
     by_cases e:j=k
     ·rw[e,hlen,h]
     ·exact hall.out j (by omega))
    clear hrd hlen
    by_cases h32:nk=32
    ·have hne:((nk:Int) != 32)=false:=by simp;omega
     go_wp2_with fail
     go_roundw
     case rel=>exact⟨k+1,by omega,by go_num,hid (hstep.out h32),B1⟩
     case measure=>simp[intOf];omega
    ·have hne:((nk:Int) != 32)=true:=by simp;omega
     go_wp2_with (first
      | (refine Qap rfl 30 _ rfl (Qym 32 (W8 0)) ?hb ?_;(case hb=>kernel_rfl))
      | (refine QaV (bs:=Qym 32 0) rfl rfl _ _ rfl (B1.nth 1 rfl) rfl (by kernel_rfl) rfl rfl ?_;intro w9 hb9 ho9)
      | fail)
     exact bodyPost_ret (Qah rfl _ _ _ _ _ _ hb9 rfl Tryz.underlying30 rfl (by rw[Qyn,Qyy];exact Qbn)) rfl ⟨by rw[hb2.out h32];rfl,(B1.write 1 rfl ho9 hb9).lat⟩
   ·have hall':=hid (QlG ps (fun j hj=>hall.out j (by omega)))
    have hCR:=hR.out hall'.out
    have hnl:=Qca x1
    have HC:=hid hCR
    clear hCR hR hbad hall
    generalize nb x1=N0 at *
    go_wp2_with (first
     | (refine Qa2 rfl _ rfl (B1.nth 0 rfl) rfl ?_)
     | (go_at_call 92;(with_reducible refine (cB.out _).mono ?_);rintro e w3 ⟨rfl,j3⟩)
     | (refine QaV rfl rfl _ _ rfl (Blk.new w3 _ (Qym 32 (.int .u8 0))) rfl rfl hnl rfl ?_;intro w4 hb4 ho4)
     | fail)
    have B2:=B1.push (j3.trans (Qaa w3 _)) j3.size ho4 hb4
    clear j3 hb4 ho4 B1 cB
    generalize w3.heap.size=g10 at *
    go_loopw [37] (fun i wr=>∃(k:Nat) (at_:List UInt8),k≤m∧i= .int .i64 k∧at_.length=32∧Hid (CR=Qea (ps.drop k) at_)∧Bag w wr [(g10,30,at_.map W8),(g6,211,EL x1),(w.heap.size,30,Qym 32 (Value.int .u8 0))]) (fun i _=>m-(intOf i).toNat)
    case atStart=>exact⟨0,N0,by omega,rfl,hnl,hid (by rw[Qzn];exact HC.out),B2⟩
    case round=>
     clear B2
     obtain⟨k,at_,hk,rfl,hal,hch,B2⟩:=hrel
     by_cases hlt:k<m
     ·obtain⟨b,o,Ak,nk,ck,rfl,hb,hck,hcap,hrd,_⟩:=(hp.later B2.lat).at_ hlt
      have hd:=QoM ps k (by omega)
      have hlen:=hrd.len
      have hl32:(ps.getD k []).length=32:=by
       rw[Qys,Qyq (by omega)]
       exact hall'.out _ (QzH _)
      have hch':=hch.out
      rw[hd,Qea]at hch'
      have HCH:=hid hch'
      clear hch hch' hd
      generalize ps.getD k []=p at *
      obtain rfl:nk=32:=by omega
      have cM:=hid (Qiy Ak (some ⟨g10,0,none⟩) 32 ck 32 32 p at_ wr hrd (QbY (B2.nth 0 rfl) hal) (by omega) (by omega))
      have hml:=Qbk p at_
      generalize QcU p at_=M at *
      by_cases he:QdD p at_=0
      ·have HE:=HCH.out
       rw[if_pos he]at HE
       replace HE:=hid HE
       rw[he]at cM
       clear HCH he
       go_wp2_with fail
       (with_reducible refine cM.out.mono ?_);rintro e w5 ⟨rfl,j5⟩
       go_wp2_with (first
        | (refine QaV rfl rfl _ _ rfl ((B2.later j5).nth 0 rfl) rfl rfl hml (by rw[Qyn,hal]) ?_;intro w6 hb6 ho6)
        | fail)
       go_roundw
       case rel=>exact⟨k+1,M,by omega,by go_num,hml,HE,(B2.later j5).write 0 rfl ho6 hb6⟩
       case measure=>simp[intOf];omega
      ·have HE:=HCH.out
       rw[if_neg he]at HE
       replace HE:=hid HE
       generalize QdD p at_=e5 at *
       have hne:((e5:Int) != 0)=true:=by simp;omega
       clear HCH
       go_wp2_with fail
       (with_reducible refine cM.out.mono ?_);rintro e w5 ⟨rfl,j5⟩
       go_wp2_with (first
        | (refine QaV rfl rfl _ _ rfl ((B2.later j5).nth 0 rfl) rfl rfl hml (by rw[Qyn,hal]) ?_;intro w6 hb6 ho6
           have B3:=(B2.later j5).write 0 rfl ho6 hb6)
        | (refine Qap rfl 30 _ rfl (Qym 32 (W8 0)) ?hb ?_;(case hb=>kernel_rfl))
        | (refine QaV (bs:=Qym 32 0) rfl rfl _ _ rfl (B3.nth 2 rfl) rfl (by kernel_rfl) rfl rfl ?_;intro w9 hb9 ho9)
        | fail)
       exact bodyPost_ret (Qah rfl _ _ _ _ _ _ hb9 rfl Tryz.underlying30 rfl (by rw[Qyn,Qyy];exact Qbn)) rfl ⟨by rw[HE.out];rfl,(B3.write 2 rfl ho9 hb9).lat⟩
     ·have hd:ps.drop k=[]:=Qzm (by omega)
      have hch':=hch.out
      rw[hd,Qea]at hch'
      have HE:=hid hch'
      clear hch' hch hd
      go_wp2_with (first
       | (refine Qf5 rfl _ rfl (B2.nth 0 rfl) hal rfl ?_)
       | (refine QaV rfl rfl _ _ rfl (B2.nth 2 rfl) rfl rfl hal rfl ?_;intro w9 hb9 ho9)
       | fail)
      exact bodyPost_ret (Qah rfl _ _ _ _ _ _ hb9 rfl Tryz.underlying30 rfl (by rw[Qyn,hal];exact Qbn)) rfl ⟨by rw[HE.out];rfl,(B2.write 2 rfl ho9 hb9).lat⟩
 ·have eU:Qc1 us=2:=by rw[Qc1,if_neg (by omega)]
  rw[eU]at cU
  have hR:=hid (show Qcv us ps=(Qym 32 0,2) by rw[Qcv,if_neg (by rintro⟨h,_⟩;omega)])
  generalize Qcv us ps=CR at *
  generalize QcF us=x1 at *
  go_enter Tryz.func57,Tryz.ntmps57
  go_wp2_with fail
  generalize hW:w.alloc _=w0
  replace B0:Bag w w0 [(w.heap.size,30,Qym 32 (Value.int .u8 0))]:=by rw[←hW];exact Qbi w 30 (Qym 32 (Value.int .u8 0))
  clear hW
  (with_reducible refine (cU.out _ (hu.later B0.lat)).mono ?_);rintro e w1 ⟨rfl,j1⟩
  go_wp2_with (first
   | (refine Qas rfl rfl _ _ rfl (Blk.new w1 _ (Qym 4 (.int .u64 0))) rfl rfl rfl ?_;intro w2 hb2 ho2
      have B1:=B0.push (j1.trans (Qaa w1 _)) j1.size ho2 hb2)
   | (refine Qap rfl 30 _ rfl (Qym 32 (W8 0)) ?hb ?_;(case hb=>kernel_rfl))
   | (refine QaV (bs:=Qym 32 0) rfl rfl _ _ rfl (B1.nth 1 rfl) rfl (by kernel_rfl) rfl rfl ?_;intro w9 hb9 ho9)
   | fail)
  exact bodyPost_ret (Qah rfl _ _ _ _ _ _ hb9 rfl Tryz.underlying30 rfl (by rw[Qyn,Qyy];exact Qbn)) rfl ⟨by rw[hR.out];rfl,(B1.write 1 rfl ho9 hb9).lat⟩
end Go.Proofs.YtdhgpkdjdmlphaaGreat
