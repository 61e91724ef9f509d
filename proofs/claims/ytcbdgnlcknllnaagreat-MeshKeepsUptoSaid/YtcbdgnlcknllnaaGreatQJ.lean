/-
  Lemmas for the last text of this claim (part 10 of 20).
-/
import Derived.ArgAppend
import Derived.BigQuiet
import Derived.BigRegion
import Derived.ChangeOld
import Derived.Deep.RegionWith
import Derived.DeepKeys4
import Derived.JoinedCond
import Derived.LaidMore
import Derived.Laws.CopyOwn
import Derived.Laws.Externs
import Derived.Laws.IdiomStrings
import Derived.Laws.Tables
import Derived.Lib.AppendStr
import Derived.Lib.AppendZerosOnto
import Derived.Lib.Mul64
import Derived.Lib.SlBytesConst
import Derived.LoopN
import Derived.Maps.OwnSet
import Derived.OpenShut
import Derived.OrdersHeld
import Derived.ProofKit
import Derived.Shelf.Spec.BitsCarry
import Derived.ShutString
import Derived.Test.YtcbdgnlcknllnaaGreatProg
import Derived.Test.YtcbdgnlcknllnaaGreatRows
import Derived.WalkKit
import Derived.WalkLawsBesides
import Derived.WalkSpells
import Derived.Test.YtcbdgnlcknllnaaGreatQC
import Derived.Test.YtcbdgnlcknllnaaGreatQD
import Derived.Test.YtcbdgnlcknllnaaGreatQE
import Derived.Test.YtcbdgnlcknllnaaGreatQF
import Derived.Test.YtcbdgnlcknllnaaGreatQH
import Derived.Test.YtcbdgnlcknllnaaGreatQI
open List renaming replicate → Qyl, getElem?_cons_succ → Qym, getElem?_cons_zero → Qyn, length_map → Qyo, getElem?_eq_getElem → Qyq, nil_append → Qyr, cons_append → Qys, getD_eq_getElem?_getD → Qyt, setIfInBounds_toArray → Qyu, length_append → Qyz, take_of_length_le → QyA, getElem?_eq_some_iff → QyB, getElem?_map → QyF, getElem?_append_left → QyG, mem_cons → QyI, map_cons → QyJ, append_assoc → QyK, not_mem_nil → QyN, length_replicate → QyO, length_drop → QyQ, take_succ_eq_append_getElem → QyR, append_nil → QyT, length_take → QyW, length_set → QyY, map_append → QyZ, range → Qy0, mem_map → Qy1, set_append_right → Qy3, map_replicate → Qy5, all_eq_true → Qy6, mem_append → Qy8, take_append_of_le_length → Qza, length_cons → Qzd, drop_of_length_le → Qze, drop_left' → Qzh, getElem?_eq_none → Qzo, map_take → Qzp, replicate_succ → QzA, take_zero → QzK, nodup_cons → QzL, getElem?_take → QzO, getElem?_drop → QzP, mem_filterMap → QzR, mem_of_getElem? → QzS, drop_drop → QAc, range_succ → QAf, take_left' → QAo, map_set → QAu
open Nat renaming le_refl → Qyv, zero_add → QyE, lt_of_lt_of_le → QyL, mod_eq_of_lt → QyS, le_trans → QyX, lt_or_ge → Qzn, mul_mod → QAm, mod_mod → QAw
open Option renaming toList_some → Qyp
open UInt32 renaming ofNat → QyU
open UInt64 renaming ofInt → Qzf
set_option linter.all false
namespace Go.Proofs.YtcbdgnlcknllnaaGreat
open Go.RowKit
theorem QdV:∀(vs:List Value) (k off:Nat) (cells:List Value),off+vs.length≤cells.length→
 (vs.zipIdx k).foldl (fun (cs:Array Value) (x:Value×Nat)=>cs.setIfInBounds (off-k+x.2) x.1) cells.toArray=(Qan cells off vs).toArray∨off<k
 | [],k,off,cells,_=>.inl (by simp[Qan])
 | v :: vs,k,off,cells,h=>by
   rcases Qzn off k with hk|hk
   ·exact .inr hk
   left
   simp only[Qzd]at h
   have ih:=QdV vs (k+1) (off+1) (cells.set off v) (by simp;omega)
   rcases ih with ih|ih
   ·rw[List.zipIdx_cons,List.foldl_cons,show off-k+k=off by omega]
    simp only[Qyu]
    rw[show off+1-(k+1)=off-k by omega]at ih
    rw[ih]
    congr 1
    rw[Qan,Qan,QyR (by simp;omega),List.drop_set_of_lt (by omega)]
    simp only[List.take_set_of_le (Qyv off),List.getElem_set_self,QyK,Qys,Qyr,Qzd,show off+1+vs.length=off+(vs.length+1) by omega]
   ·omega
theorem QmB (vs cells:List Value) (off:Nat) (h:off+vs.length≤cells.length):
 vs.toArray.zipIdx.foldl (fun (cs:Array Value) (x:Value×Nat)=>cs.setIfInBounds (off+x.2) x.1) cells.toArray=(Qan cells off vs).toArray:=by
 rcases QdV vs 0 off cells h with h|h
 ·rw[←Array.foldl_toList,Array.toList_zipIdx]
  simpa using h
 ·omega
theorem QaN {P:Program} {t:TypeId} {zs:List Value} {fs:Array Field} {pl:List (Nat×Nat)} (hu:P.underlying t=some (.struct fs)) (hz:(P.info? t).bind (·.zero)=some (.agg zs.toArray))
 (hp:(fs.toList.mapM fun f=>(P.info? f.type).map fun i=>(f.offset,i.size))=some pl) (parts:List (Nat×Value)):P.built t parts=Instr.fill (pl.toArray[·]?) zs.toArray parts:=by
 cases hq:P.info? t with
 | none=>simp[hq]at hz
 | some it=>
   have hz':it.zero=some (.agg zs.toArray):=by simpa [hq] using hz
   have hc2:(Value.agg zs.toArray).cells=zs.toArray:=rfl
   unfold Program.built
   rw[hq,hu]
   simp only[hz',hp,hc2]
theorem QaH {place:Nat→Option (Nat×Nat)} {i off:Nat} {cells vs:List Value} {v:Value} {rest:List (Nat×Value)} (hv:v.cells=vs.toArray) (hpi:place i=some (off,vs.length)) (hfit:off+vs.length≤cells.length):
 Instr.fill place cells.toArray ((i,v) :: rest)=Instr.fill place (Qan cells off vs).toArray rest:=by
 simp only[Instr.fill,hpi,hv,List.size_toArray]
 rw[if_neg (by simp;omega),QmB _ _ _ hfit]
theorem Qbs {place:Nat→Option (Nat×Nat)} {cells:Array Value}:Instr.fill place cells []=some cells:=rfl
section
variable {P:Program} {ops:Array Oper} {rest:List Oper} {o:Oper} {a:Act} {w:World} {Q:Exit→Act→World→Prop}
theorem Qam (hw:Region.wanted o (yielded ops a.tmps)=true) (ty:TypeId) (x:Operand) (ho:o.op= .load ty x) (g off:Nat) (vs:List Value) (hc:∀j v,vs[j]?=some v→w.cell? ⟨g,off+j,none⟩=some v)
 (hx:a.eval x= .pointer (some ⟨g,off,none⟩)) (d:TypeDesc) (hu:P.underlying ty=some d) (hd:Qa8 d=true) (hi:(P.info? ty).map (·.size)=some vs.length)
 (h:wpList P ops Q rest (a.put o.dst (.agg vs.toArray)) w):wpList P ops Q (o :: rest) a w:=by
 refine BigFrame.wpList_want hw fun K hK=>?_
 unfold Oper.wp
 simp only[execOp,ho,hx,Instr.loadAt,Instr.sureAddr,Sem.run_bind,Sem.run_pure,Result.andThen_ok,QaY w g off ty vs d hc hu hd hi]
 exact hK _ _ h
theorem Qah (hw:Region.wanted o (yielded ops a.tmps)=true) (t:TypeId) (parts:Array (Nat×Operand)) (ho:o.op= .build t parts) (vs:List Value) (hb:P.built t (parts.map fun (i,x)=>(i,a.eval x)).toList=some vs.toArray)
 (h:wpList P ops Q rest (a.put o.dst (.agg vs.toArray)) w):wpList P ops Q (o :: rest) a w:=
 BigFrame.wpList_want hw fun K hK=>wp_build t parts ho (by rw[hb];rfl) (by rw[hb];exact hK _ _ h)
end
theorem QeB:(Tryz.prog.info? 45).map (·.size)=some 32:=by kernel_rfl
theorem QcT {P:Program} {t:TypeId} {n k:Nat} {d:TypeDesc} (hu:P.underlying t=some d) (hd:Qa8 d=true) (hs:(P.info? t).map (·.size)=some n) (zs r:List Value) (hz:(zs.drop k).take n=r) (w:World):
 (part t zs.toArray k).run P w= .ok (.agg r.toArray) w:=by
 have hs:(sizeOf t).run P w= .ok n w:=by
  cases hq:P.info? t with
  | none=>simp[hq]at hs
  | some inf=>
    have hsz:inf.size=n:=by simpa [hq] using hs
    simp[sizeOf,typeInfo,hq,hsz]
 have ha:(isAgg t).run P w= .ok true w:=by
  unfold isAgg
  simp only[Sem.run_bind,run_underlying hu]
  cases d<;>simp_all [Qa8]
 unfold part
 simp only[Sem.run_bind,ha,Result.andThen_ok,if_true,hs,Sem.run_pure]
 rw[←hz]
 simp
theorem Qcc {P:Program} {d n k:Nat} {t e:TypeId} {f:Field} {fs:List Field} (hf:f.type=t) (hu:P.underlying t=some (.array n e)) (hs:(P.info? t).map (·.size)=some n) (hs1:(P.info? e).map (·.size)=some 1) (he:P.underlying e=some (.int .u8))
 (hn:f.name≠ "_") {xs ys:List Value} {p q:List UInt8} (ho:f.offset=k) (hp:(xs.drop k).take n=p.map W8) (hq:(ys.drop k).take n=q.map W8) (hpl:p.length=n) (hql:q.length=n) (w:World):
 (Op.eqFields (d+2) xs.toArray ys.toArray (f :: fs)).run P w=if p==q then (Op.eqFields (d+2) xs.toArray ys.toArray fs).run P w else .ok false w:=by
 rw[Op.eqFields,if_pos hn]
 simp only[Sem.run_bind,hf,ho,QcT hu rfl hs xs _ hp,QcT hu rfl hs ys _ hq,Result.andThen_ok]
 rw[QaS w 0 W8 d t e n hu hs1 he rfl (QhX _ _ he) p q hpl hql]
 simp only[Result.andThen_ok]
 cases p==q<;>simp
theorem Qbn {d:Nat} {f:Field} {fs:List Field} (hf:f.type=45) (hn:f.name≠ "_") {xs ys:List Value} {p q:List UInt8} {k:Nat} (ho:f.offset=k) (hp:(xs.drop k).take 32=p.map W8) (hq:(ys.drop k).take 32=q.map W8) (hpl:p.length=32) (hql:q.length=32) (w:World):
 (Op.eqFields (d+2) xs.toArray ys.toArray (f :: fs)).run Tryz.prog w=if p==q then (Op.eqFields (d+2) xs.toArray ys.toArray fs).run Tryz.prog w else .ok false w:=
 Qcc hf Tryz.underlying45 QeB Qbo Tryz.underlying5 hn ho hp hq hpl hql w
theorem QeQ {P:Program} {t:TypeId} {fs:Array Field} (hu:P.underlying t=some (.struct fs)) (hp:P.stoodInHeld t=false) (xs ys:Array Value) (w:World):
 (binOp .eql t (.agg xs) (.agg ys)).run P w=((Op.eqFields 9999 xs ys fs.toList).run P w).andThen fun b w'=>.ok (.bool b) w':=by
 have e:P.fieldsOf t=fs:=by unfold Program.fieldsOf;rw[hu]
 rw[run_eql_struct,run_equalIn_struct w 9999 t xs ys (by rw[e];exact hu) hp,e]
theorem Qgk {P:Program} {t:TypeId} {fs:Array Field} (hu:P.underlying t=some (.struct fs)) (hp:P.stoodInHeld t=false) (xs ys:Array Value) (w:World):
 (binOp .neq t (.agg xs) (.agg ys)).run P w=((Op.eqFields 9999 xs ys fs.toList).run P w).andThen fun b w'=>.ok (.bool (!b)) w':=by
 have e:P.fieldsOf t=fs:=by unfold Program.fieldsOf;rw[hu]
 rw[run_neq_struct,run_equalIn_struct w 9999 t xs ys (by rw[e];exact hu) hp,e]
theorem Qch {d:Nat} {xs ys:Array Value} (w:World):(Op.eqFields d xs ys []).run Tryz.prog w= .ok true w:=by
 rw[Op.eqFields]
 simp
theorem Blk.cast {w:World} {g:Nat} {t:TypeId} {l l':List Value} (h:Blk w g t l) (e:l=l'):Blk w g t l':=e ▸ h
def subB (bs:List UInt8) (off n:Nat):List UInt8:=(bs.drop off).take n
def putB (bs:List UInt8) (off:Nat) (vs:List UInt8):List UInt8:=bs.take off++vs++bs.drop (off+vs.length)
theorem Qas {bs:List UInt8} {off n:Nat} (h:off+n≤bs.length):(subB bs off n).length=n:=by
 rw[subB,QyW,QyQ]
 omega
theorem Qb3 {bs vs:List UInt8} {off:Nat} (h:off+vs.length≤bs.length):(putB bs off vs).length=bs.length:=by
 rw[putB,Qyz,Qyz,QyW,QyQ]
 omega
theorem Qcb (bs vs:List UInt8) (off:Nat):Qan (bs.map W8) off (vs.map W8)=(putB bs off vs).map W8:=by
 rw[Qan,putB,Qyo,QyZ,QyZ,Qzp,List.map_drop]
theorem QeJ (p q r:List UInt8) (off n:Nat) (hp:p.length=off) (hq:q.length=n):subB (p++(q++r)) off n=q:=by
 rw[subB,Qzh hp,QAo hq]
theorem Qmp (q r:List UInt8) (n:Nat) (hq:q.length=n):subB (q++r) 0 n=q:=QeJ [] q r 0 n rfl hq
theorem QpL (p q:List UInt8) (off n:Nat) (hp:p.length=off) (hq:q.length=n):subB (p++q) off n=q:=by
 have:=QeJ p q [] off n hp hq
 rwa [QyT]at this
theorem Ql4 {bs:List UInt8} {off n j:Nat} {v:UInt8} (h:(subB bs off n)[j]?=some v):bs[off+j]?=some v:=by
 rw[subB,QzO]at h
 split at h
 ·rwa [QzP]at h
 ·cases h
theorem Qdi (p q r v:List UInt8) (off:Nat) (hp:p.length=off) (hq:q.length=v.length):putB (p++(q++r)) off v=p++(v++r):=by
 rw[putB,QAo hp,←QAc,Qzh hp,Qzh hq,QyK]
theorem Qdb (q r v:List UInt8) (hq:q.length=v.length):putB (q++r) 0 v=v++r:=Qdi [] q r v 0 rfl hq
theorem QdY (p q v:List UInt8) (off:Nat) (hp:p.length=off) (hq:q.length=v.length):putB (p++q) off v=p++v:=by
 have:=Qdi p q [] v off hp hq
 rwa [QyT,QyT]at this
theorem QlZ (bs vs:List UInt8) (h:vs.length=bs.length):putB bs 0 vs=vs:=by
 rw[putB,QzK,Qyr,QyE,Qze (by omega),QyT]
theorem QgG {w:World} {g:Nat} {t:TypeId} {bs r:List UInt8} {off n:Nat} (hb:Blk w g t (bs.map W8)) (hr:subB bs off n=r):∀j v,(r.map W8)[j]?=some v→w.cell? ⟨g,off+j,none⟩=some v:=by
 intro j v hv
 rw[QyF,Option.map_eq_some_iff]at hv
 obtain⟨x,hx,rfl⟩:=hv
 rw[←hr]at hx
 exact hb.cellD _ (by rw[QyF,Ql4 hx];rfl)
theorem QcD {w:World} {g:Nat} {t:TypeId} {bs r:List UInt8} {off n:Nat} (hb:Blk w g t (bs.map W8)) (hr:subB bs off n=r) (hn:r.length=n):RdB w (some ⟨g,off,none⟩) n r:=
 ⟨by rw[Qyo,hn],fun _=>⟨g,off,rfl,hb.lt,fun j u hu=>QgG hb hr j u hu⟩⟩
section
variable {P:Program} {ops:Array Oper} {rest:List Oper} {o:Oper} {a:Act} {w:World} {Q:Exit→Act→World→Prop}
theorem QnT (off n:Nat) (hw:Region.wanted o (yielded ops a.tmps)=true) {ty:TypeId} (x:Operand) (ho:o.op= .load ty x) {g:Nat} {t:TypeId} {bs r:List UInt8} (hb:Blk w g t (bs.map W8)) (hx:a.eval x= .pointer (some ⟨g,off,none⟩)) {d:TypeDesc} (hu:P.underlying ty=some d) (hd:Qa8 d=true)
 (hi:(P.info? ty).map (·.size)=some n) (hr:subB bs off n=r) (hn:r.length=n) (h:wpList P ops Q rest (a.put o.dst (.agg (r.map W8).toArray)) w):wpList P ops Q (o :: rest) a w:=
 Qam hw ty x ho g off (r.map W8) (QgG hb hr) hx d hu hd (by rw[Qyo,hn];exact hi) h
theorem Qid (off n:Nat) {K:Act→Prop} {ty:TypeId} (x:Operand) (ho:o.op= .load ty x) {w0:World} {g:Nat} {t:TypeId} {bs r:List UInt8} (hb:Blk w0 g t (bs.map W8)) (hx:a.eval x= .pointer (some ⟨g,off,none⟩)) {d:TypeDesc} (hu:P.underlying ty=some d) (hd:Qa8 d=true)
 (hi:(P.info? ty).map (·.size)=some n) (hr:subB bs off n=r) (hn:r.length=n) (h:K (a.put o.dst (.agg (r.map W8).toArray))):o.quiet P a (fun w'=>∃x,w'=grow w0 x) K:=
 QaQ ty x ho g off (r.map W8) (fun w' hw j v hv=>by obtain⟨y,rfl⟩:=hw;exact QgG (hb.later ⟨y,rfl⟩) hr j v hv) hx d hu hd (by rw[Qyo,hn];exact hi) h
theorem Qnw (off n:Nat) (hgd:o.guard=none) (hd:o.dst=none) {ty:TypeId} (x y:Operand) (ho:o.op= .store ty x y) {g:Nat} {t:TypeId} {bs vs:List UInt8} (hg:Blk w g t (bs.map W8)) (hx:a.eval x= .pointer (some ⟨g,off,none⟩)) (hy:a.eval y= .agg (vs.map W8).toArray)
 (hi:(P.info? ty).map (·.size)=some n) (hn:vs.length=n) (hfit:off+n≤bs.length) (h:∀w',Blk w' g t ((putB bs off vs).map W8)→Only g w w'→wpList P ops Q rest a w'):wpList P ops Q (o :: rest) a w:=
 Qal hgd hd ty x y ho g off t _ (vs.map W8) hg hx hy (by rw[Qyo,hn];exact hi) (by rw[Qyo,Qyo];omega) (QaC _) (fun w' hb=>h w' (by rwa [Qcb]at hb))
theorem QgY (n:Nat) (hgd:o.guard=none) (hd:o.dst=none) {ty:TypeId} (x y:Operand) (ho:o.op= .store ty x y) {g:Nat} {t:TypeId} {l:List Value} {vs:List UInt8} (hg:Blk w g t l) (hx:a.eval x= .pointer (some ⟨g,0,none⟩)) (hy:a.eval y= .agg (vs.map W8).toArray)
 (hi:(P.info? ty).map (·.size)=some n) (hn:vs.length=n) (hl:l.length=n) (h:∀w',Blk w' g t (vs.map W8)→Only g w w'→wpList P ops Q rest a w'):wpList P ops Q (o :: rest) a w:=
 Qal hgd hd ty x y ho g 0 t l (vs.map W8) hg hx hy (by rw[Qyo,hn];exact hi) (by rw[Qyo];omega) (QaC _) (fun w' hb=>h w' (by rwa [Qap _ _ (by rw[Qyo];omega)]at hb))
theorem QsU (off m:Nat) (hgd:o.guard=none) (dd s:Operand) (dT sT:TypeId) (ho:o.op= .call { callee:=.builtin .copy,args:= #[dd,s],argTypes:= #[dT,sT] }) (elem:TypeId) (hu:P.underlying dT=some (.slice elem)) (hsz:(P.info? elem).map (·.size)=some 1)
 {g c:Nat} {t:TypeId} {bs:List UInt8} (hg:Blk w g t (bs.map W8)) {A:Option Addr} {c2:Nat} {vs:List UInt8} (hr:RdB w A m vs) (hd:a.eval dd= .slice (some ⟨g,off,none⟩) m c) (hs:a.eval s= .slice A m c2) (hfit:off+m≤bs.length)
 (h:∀w',Blk w' g t ((putB bs off vs).map W8)→Only g w w'→wpList P ops Q rest (a.put o.dst (.int .i64 ((m:Nat):Int))) w'):wpList P ops Q (o :: rest) a w:=
 Qaq hgd dd s dT sT ho elem hu hsz g off m c t _ hg A m c2 (vs.map W8) hr (QaC _) hd hs (by rw[Qyo];exact hfit) (fun w' hb ho=>by
  rw[QyA (by rw[Qyo,hr.len];exact Qyv _),Qcb]at hb
  rw[Nat.min_self]
  exact h w' hb ho)
end
def Qen (bs:List UInt8):List (Nat×List UInt8)→List UInt8
 | []=>bs
 | (off,vs) :: r=>Qen (putB bs off vs) r
theorem Qhn (place:Nat→Option (Nat×Nat)):∀(parts:List (Nat×Nat×List UInt8)) (bs:List UInt8),(∀ p∈parts,place p.1=some (p.2.1,p.2.2.length)∧p.2.1+p.2.2.length≤bs.length)→
 Instr.fill place (bs.map W8).toArray (parts.map fun p=>(p.1,.agg (p.2.2.map W8).toArray))=some ((Qen bs (parts.map fun p=>(p.2.1,p.2.2))).map W8).toArray
 | [],bs,_=>rfl
 | (i,off,vs) :: r,bs,h=>by
   have h0:=h (i,off,vs) (by simp)
   rw[QyJ,QaH (vs:=vs.map W8) (off:=off) rfl (by rw[Qyo];exact h0.1) (by rw[Qyo,Qyo];exact h0.2),Qcb,Qhn place r (putB bs off vs) fun p hp=>?_]
   ·rfl
   ·have:=h p (by simp[hp])
    rw[Qb3 h0.2]
    exact this
theorem Qet {P:Program} {t:TypeId} {n:Nat} {fs:Array Field} {pl:List (Nat×Nat)} (hu:P.underlying t=some (.struct fs)) (hz:(P.info? t).bind (·.zero)=some (.agg (Qyl n (W8 0)).toArray))
 (hp:(fs.toList.mapM fun f=>(P.info? f.type).map fun i=>(f.offset,i.size))=some pl) (parts:List (Nat×Nat×List UInt8)) (hpl:∀p∈parts,pl.toArray[p.1]?=some (p.2.1,p.2.2.length)∧p.2.1+p.2.2.length≤n):
 P.built t (parts.map fun p=>(p.1,.agg (p.2.2.map W8).toArray))=some ((Qen (Qyl n 0) (parts.map fun p=>(p.2.1,p.2.2))).map W8).toArray:=by
 rw[QaN hu hz hp,show Qyl n (W8 0)=(Qyl n (0:UInt8)).map W8 by rw[Qy5],Qhn _ parts _ (fun p hp=>by rw[QyO];exact hpl p hp)]
structure Bag (w wk:World) (ls:List (Nat×TypeId×List Value)):Prop where
 lat:Later w wk
 blk:∀p∈ls,Blk wk p.1 p.2.1 p.2.2
 low:∀p∈ls,w.heap.size≤p.1
 nd:(ls.map (·.1)).Nodup
section
variable {w wk v v1:World} {ls:List (Nat×TypeId×List Value)} {k:Nat} {t:TypeId} {l l':List Value}
theorem Bag.nth (h:Bag w wk ls) (i:Nat) (hi:ls[i]?=some (k,t,l)):Blk wk k t l:=h.blk (k,t,l) (QzS hi)
theorem Bag.at_low (h:Bag w wk ls) (i:Nat) (hi:ls[i]?=some (k,t,l)):w.heap.size≤k:=h.low (k,t,l) (QzS hi)
theorem Bag.later (h:Bag w wk ls) (j:Later wk v):Bag w v ls:=⟨h.lat.trans j,fun p hp=>(h.blk p hp).later j,h.low,h.nd⟩
theorem Bag.drew (h:Bag w wk ls):Bag w wk.drew ls:=h.later (Qab _)
theorem Bag.none (w:World):Bag w w []:=⟨Later.refl w,by simp,by simp,by simp⟩
theorem Bag.add (h:Bag w wk ls) (j:Later wk v) (hk:∀p∈ls,k≠p.1) (hl:w.heap.size≤k) (hb:Blk v k t l):Bag w v ((k,t,l) :: ls):=by
 have h1:=h.later j
 refine⟨h1.lat,?_,?_,?_⟩
 ·intro p hp
  rcases QyI.1 hp with rfl|hp
  ·exact hb
  ·exact h1.blk p hp
 ·intro p hp
  rcases QyI.1 hp with rfl|hp
  ·exact hl
  ·exact h1.low p hp
 ·rw[QyJ,QzL]
  refine⟨fun hm=>?_,h1.nd⟩
  obtain⟨p,hp,e⟩:=Qy1.1 hm
  exact hk p hp e.symm
theorem Bag.write (h:Bag w wk ls) (i:Nat) (hi:ls[i]?=some (k,t,l)) (o:Only k wk v) (hb:Blk v k t l'):Bag w v (ls.set i (k,t,l')):=by
 refine⟨h.lat.only o (h.at_low i hi),?_,?_,?_⟩
 ·intro p hp
  obtain⟨j,hj⟩:=List.getElem?_of_mem hp
  rw[List.getElem?_set]at hj
  split at hj
  ·split at hj
   ·cases hj
    exact hb
   ·cases hj
  ·rename_i hne
   refine (h.blk p (QzS hj)).only o ?_
   intro e
   have h1:(ls.map (·.1))[i]?=some k:=by rw[QyF,hi];rfl
   have h2:(ls.map (·.1))[j]?=some k:=by rw[QyF,hj,←e];rfl
   have hlt:i<(ls.map (·.1)).length:=(QyB.1 h1).1
   exact hne ((List.getElem?_inj hlt h.nd).1 (h1.trans h2.symm))
 ·intro p hp
  rcases List.mem_or_eq_of_mem_set hp with hp|rfl
  ·exact h.low p hp
  ·exact h.at_low i hi
 ·have:(ls.set i (k,t,l')).map (·.1)=ls.map (·.1):=by
   rw[QAu]
   apply List.ext_getElem?
   intro j
   rw[List.getElem?_set]
   split
   ·rename_i e
    subst e
    split
    ·rw[QyF,hi];rfl
    ·rename_i hlt
     rw[Qzo (by omega)]
   ·rfl
  rw[this]
  exact h.nd
theorem Bag.push (h:Bag w wk ls) (j:Later wk v) (hk:wk.heap.size≤k) (o:Only k v v1) (hb:Blk v1 k t l):Bag w v1 ((k,t,l) :: ls):=by
 have h0:∀p∈ls,k≠p.1:=fun p hp e=>by have:=(h.blk p hp).lt;omega
 have hw:w.heap.size≤k:=by have:=h.lat.size;omega
 have h1:=h.later j
 refine⟨h1.lat.only o hw,?_,?_,?_⟩
 ·intro p hp
  rcases QyI.1 hp with rfl|hp
  ·exact hb
  ·exact (h1.blk p hp).only o (fun e=>h0 p hp e.symm)
 ·intro p hp
  rcases QyI.1 hp with rfl|hp
  ·exact hw
  ·exact h1.low p hp
 ·rw[QyJ,QzL]
  refine⟨fun hm=>?_,h1.nd⟩
  obtain⟨p,hp,e⟩:=Qy1.1 hm
  exact h0 p hp e.symm
theorem Bag.ne {p q:Nat×TypeId×List Value} (h:Bag w wk ls) (i j:Nat) (hi:ls[i]?=some p) (hj:ls[j]?=some q) (hij:i≠j):p.1≠q.1:=by
 intro e
 have h1:(ls.map (·.1))[i]?=some p.1:=by rw[QyF,hi];rfl
 have h2:(ls.map (·.1))[j]?=some p.1:=by rw[QyF,hj,e];rfl
 have hlt:i<(ls.map (·.1)).length:=(QyB.1 h1).1
 exact hij ((List.getElem?_inj hlt h.nd).1 (h1.trans h2.symm))
theorem Bag.drop (h:Bag w wk ls) (n:Nat):Bag w wk (ls.drop n):=
 ⟨h.lat,fun p hp=>h.blk p (List.mem_of_mem_drop hp),fun p hp=>h.low p (List.mem_of_mem_drop hp),by rw[List.map_drop];exact (List.drop_sublist n _).nodup h.nd⟩
end
theorem Qbh (w:World) (t:TypeId) (l:List Value):Bag w (w.alloc (.cells l.toArray t)) [(w.heap.size,t,l)]:=
 ⟨Qaa _ _,by intro p hp;simp at hp;subst hp;exact Blk.new w t l,by simp,by simp⟩
section
variable {w wk v:World} {ls ls':List (Nat×TypeId×List Value)}
theorem Bag.fresh (h:Bag w wk ls) {k:Nat} {t:TypeId} {l:List Value} (j:Later wk v) (hk:wk.heap.size≤k) (hb:Blk v k t l):Bag w v ((k,t,l) :: ls):=
 h.add j (fun p hp e=>by have:=(h.blk p hp).lt;omega) (QyX h.lat.size hk) hb
theorem Bag.join (h:Bag w wk ls) (h':Bag wk v ls'):Bag w v (ls'++ls):=by
 have h1:=h.later h'.lat
 refine⟨h1.lat,fun p hp=>?_,fun p hp=>?_,?_⟩
 ·rcases Qy8.1 hp with hp|hp
  ·exact h'.blk p hp
  ·exact h1.blk p hp
 ·rcases Qy8.1 hp with hp|hp
  ·exact QyX h.lat.size (h'.low p hp)
  ·exact h1.low p hp
 ·rw[QyZ,List.nodup_append]
  refine⟨h'.nd,h.nd,fun a ha b hb e=>?_⟩
  obtain⟨p,hp,rfl⟩:=Qy1.1 ha
  obtain⟨q,hq,rfl⟩:=Qy1.1 hb
  have:=h'.low p hp
  have:=(h.blk q hq).lt
  omega
theorem Bag.sub (h:Bag w wk ls) (hs:ls'.Sublist ls):Bag w wk ls':=
 ⟨h.lat,fun p hp=>h.blk p (hs.subset hp),fun p hp=>h.low p (hs.subset hp),(hs.map _).nodup h.nd⟩
end
theorem Qu8 {w:World} {base g n:Nat} {e t:TypeId} {v:Value} {vs l:List Value} (h:w.ownsRow base e 1 v n vs) (hb:Blk w g t l) (hne:t≠e):v.ownBlock≠some g:=by
 intro hv
 rcases h.2 with ⟨rfl,_⟩|⟨g2,c2,cur2,rfl,_,hh2,_⟩
 ·cases hv
 ·cases hv
  exact hb.ne_type (l':=cur2.toList) (t':=e) hh2 hne rfl
theorem QcU {w:World} {g n:Nat} {t:TypeId} {bs:List UInt8} {rest:List Value} (h:Blk w g t (bs.map W8++rest)) (hn:bs.length=n):RdB w (some ⟨g,0,none⟩) n bs:=
 ⟨by rw[Qyo,hn],fun _=>⟨g,0,rfl,h.lt,fun j u hu=>by
   rw[QyE]
   refine h.cellD j ?_
   rw[QyG (QyB.1 hu).1]
   exact hu⟩⟩
theorem Qhw {w:World} {g:Nat} {t:TypeId} {v:Value} {p:List UInt8} (hb:Blk w g t [v]) (hp:Part w (fun _=>False) v p):Parts w (fun _=>False) (some ⟨g,0,none⟩) 1 [p]:=
 ⟨[v],hb.rd rfl,Qbx _ _,rfl,fun j v' p' hv hp'=>by
   cases j with
   | zero=>
     cases hv
     cases hp'
     exact hp
   | succ j=>simp at hv⟩
theorem QmN {w:World} {g:Nat} {t:TypeId} {v1 v2:Value} {p1 p2:List UInt8} (hb:Blk w g t [v1,v2]) (h1:Part w (fun _=>False) v1 p1) (h2:Part w (fun _=>False) v2 p2):Parts w (fun _=>False) (some ⟨g,0,none⟩) 2 [p1,p2]:=
 ⟨[v1,v2],hb.rd rfl,Qbx _ _,rfl,fun j v' p' hv hp'=>by
   match j with
   | 0=>
     cases hv
     cases hp'
     exact h1
   | 1=>
     cases hv
     cases hp'
     exact h2
   | j+2=>simp at hv⟩
theorem Qif {w:World} {base n c:Nat} {A:Option Addr} {bs:List UInt8} (h:OwnB w base A n c bs) (hn:0<n):∃g rest,A=some ⟨g,0,none⟩∧base≤g∧Blk w g 5 (bs.map W8++rest)∧c=(bs.map W8++rest).length∧n≤c:=by
 rcases QpG h with ⟨_,h0⟩|⟨g,rest,e,h1,h2,h3⟩
 ·omega
 ·exact⟨g,rest,e,h1,h2,h3,h.cap⟩
theorem QqI {ls:List (Nat×TypeId×List Value)} {t:TypeId} (h: ¬t∈ls.map (·.2.1)):∀p∈ls,p.2.1≠t:=fun p hp e=>h (Qy1.2 ⟨p,hp,e⟩)
theorem Qdx {w:World} {A:Option Addr} {n c:Nat} {p:List UInt8} (h:RdB w A n p) (hc:n≤c):Part w (fun _=>False) (.slice A n c) p:=⟨A,n,c,rfl,hc,h,fun _ _ _ h=>h⟩
theorem Qmb {w:World} {g:Nat} {t:TypeId} {l rest:List Value} {n:Nat} (h:Blk w g t (l++rest)) (hn:l.length=n):Rd w (some ⟨g,0,none⟩) n l:=by
 refine⟨hn,fun _=>⟨g,0,rfl,h.lt,fun j u hu=>?_⟩⟩
 rw[QyE]
 refine h.cellD j ?_
 rw[QyG (by have:=(QyB.1 hu).1;omega)]
 exact hu
theorem QeD {w:World} {g:Nat} {t:TypeId} {bs:List UInt8} {rest:List Value} {n:Nat} (h:Blk w g t (bs.map W8++rest)) (hn:bs.length=n):RdB w (some ⟨g,0,none⟩) n bs:=Qmb h (by rw[Qyo,hn])
end Go.Proofs.YtcbdgnlcknllnaaGreat
namespace Go.Proofs.YtcbdgnlcknllnaaGreat
open Go.RowKit
open Go.BigFrame
def rotl (x:UInt32) (n:Nat):UInt32:=Qea x n ||| QbJ x (32-n)
theorem Ql6 (n:Nat) (h1:n<32):cnt (Qzf (n:Int) &&& 31)=n∧cnt (32-(Qzf (n:Int) &&& 31))=32-n:=by
 have:∀k:Fin 32,cnt (Qzf (k.val:Int) &&& 31)=k.val∧cnt (32-(Qzf (k.val:Int) &&& 31))=32-k.val:=by decide
 exact this ⟨n,h1⟩
theorem QpJ (x:UInt32) (n:Nat) (i:Int) (hi:i=(n:Int)) (h1:n<32) (w:World):
 Calls Tryz.prog 197 #[W32 x,.int .i64 i] w fun e w'=>e= .returned (W32 (rotl x n))∧w'=w:=by
 subst hi
 have hc:=hid (Ql6 n h1)
 go_enter Tryz.func197,Tryz.ntmps197
 go_wp2
 go_ret
 exact⟨QpB (by rw[hc.out.1,hc.out.2,rotl]),rfl⟩
theorem Qjd {fn:Func} {t u v x:Tmp} (h:fn.results= #[.tmp t,.tmp u,.tmp v,.tmp x]) (tmps:Array Value) (P:Program) (w:World):
 (results fn tmps).run P w= .ok (.tuple #[tmps.getD t undef,tmps.getD u undef,tmps.getD v undef,tmps.getD x undef]) w:=by
 simp[results,h]
def Qv2 (v:UInt32×UInt32×UInt32×UInt32) (n:Nat):UInt32×UInt32×UInt32×UInt32:=(v.1+v.2.1,v.2.1,v.2.2.1,rotl (v.2.2.2 ^^^ (v.1+v.2.1)) n)
def Qvg (v:UInt32×UInt32×UInt32×UInt32) (n:Nat):UInt32×UInt32×UInt32×UInt32:=(v.1,rotl (v.2.1 ^^^ (v.2.2.1+v.2.2.2)) n,v.2.2.1+v.2.2.2,v.2.2.2)
def Qka (a b c d:UInt32):UInt32×UInt32×UInt32×UInt32:=Qvg (Qv2 (Qvg (Qv2 (a,b,c,d) 16) 12) 8) 7
set_option maxHeartbeats 1000000 in
theorem Qkq (a b c d:UInt32) (w:World):Calls Tryz.prog 192 #[W32 a,W32 b,W32 c,W32 d] w fun e w'=>
 e= .returned (.tuple #[W32 (Qka a b c d).1,W32 (Qka a b c d).2.1,W32 (Qka a b c d).2.2.1,W32 (Qka a b c d).2.2.2])∧w'=w:=by
 have hr:=hid QpJ
 go_enter Tryz.func192,Tryz.ntmps192
 go_wp2_with fail
 refine (hr.out _ 16 _ rfl (by omega) _).mono ?_;rintro e w1 ⟨rfl,rfl⟩
 go_wp2_with fail
 refine (hr.out _ 12 _ rfl (by omega) _).mono ?_;rintro e w1 ⟨rfl,rfl⟩
 go_wp2_with fail
 refine (hr.out _ 8 _ rfl (by omega) _).mono ?_;rintro e w1 ⟨rfl,rfl⟩
 go_wp2_with fail
 refine (hr.out _ 7 _ rfl (by omega) _).mono ?_;rintro e w1 ⟨rfl,rfl⟩
 go_wp2_with fail
 (try simp only[Exit.inBlock,Exit.then]);refine bodyPost_ret (Qjd rfl _ _ _) rfl ?_
 exact⟨rfl,rfl⟩
def leW (bs:List UInt8) (k:Nat):UInt32:=(Qcf bs (4*k)).toUInt32 ||| Qea (Qcf bs (4*k+1)).toUInt32 8 ||| Qea (Qcf bs (4*k+2)).toUInt32 16 ||| Qea (Qcf bs (4*k+3)).toUInt32 24
theorem QrQ {x y:UInt32} {w:World} (h:x=y) (w':World) (hl:Later w w'):Ending.returned (W32 x)= .returned (W32 y)∧Later w w':=⟨by rw[h],hl⟩
set_option maxHeartbeats 1000000 in
theorem Qud (A:Option Addr) (n c:Nat) (bs:List UInt8) (p:Nat) (w:World) (hr:RdB w A n bs) (hk:p+4≤n) (hn:n≤140737488355328):
 Calls Tryz.prog 191 #[.slice A n c,.int .i64 (p:Int)] w fun e w'=>e= .returned (W32 ((Qcf bs p).toUInt32 ||| Qea (Qcf bs (p+1)).toUInt32 8 ||| Qea (Qcf bs (p+2)).toUInt32 16 ||| Qea (Qcf bs (p+3)).toUInt32 24))∧Later w w':=by
 have hl:=hr.len
 obtain⟨b,o,rfl,hb,hc⟩:=hr.at_ (by omega)
 have c0:=hc p (by omega)
 have c1:=hc (p+1) (by omega)
 have c2:=hc (p+2) (by omega)
 have c3:=hc (p+3) (by omega)
 unfold Qcf
 generalize bs.getD p 0=x0 at *
 generalize bs.getD (p+1) 0=x1 at *
 generalize bs.getD (p+2) 0=x2 at *
 generalize bs.getD (p+3) 0=x3 at *
 clear hc hr
 go_enter Tryz.func191,Tryz.ntmps191
 go_wp2_with fail
 refine Qad [] [0,1,2,3,4,5,6,7,8,9,10,11,12,13,14,15,16,17,18,19,20,21,22,23,24,25,26,27,28,29] [] (by as_aux_lemma=>kernel_rfl) (by as_aux_lemma=>kernel_rfl) (by intro _ _ d _ _ h;cases d<;>exact h) ?_
 simp only[Qaj,pick,Qym,Qyn,Qyp,Qys,Qyr]
 repeat (go_big_quiet_step (fail))
 refine wpQuiet_nil ?_
 go_wp2_with fail
 go_ret
 exact QrQ rfl _ (Qab _)
theorem Qln (A:Option Addr) (n c:Nat) (bs:List UInt8) (k:Nat) (i:Int) (hi:i=4*(k:Int)) (w:World) (hr:RdB w A n bs) (hk:4*k+4≤n) (hn:n≤140737488355328):
 Calls Tryz.prog 191 #[.slice A n c,.int .i64 i] w fun e w'=>e= .returned (W32 (leW bs k))∧Later w w':=by
 obtain rfl:i=((4*k:Nat):Int):=by omega
 exact Qud A n c bs (4*k) w hr hk hn
def putQ (s:List UInt32) (a b c d:Nat) (q:UInt32×UInt32×UInt32×UInt32):List UInt32:=(((s.set a q.1).set b q.2.1).set c q.2.2.1).set d q.2.2.2
def QcN (s:List UInt32) (a b c d:Nat):List UInt32:=putQ s a b c d (Qka (wAt s a) (wAt s b) (wAt s c) (wAt s d))
theorem Qdv (s:List UInt32) (a b c d:Nat):(QcN s a b c d).length=s.length:=by simp[QcN,putQ]
theorem Qfw {s:List UInt32} {i:Nat} (h:i<s.length):(s.map W32)[i]?=some (W32 (wAt s i)):=by
 rw[QyF,Qyq h,wAt,Qyt,Qyq h]
 rfl
theorem Qey (s:List UInt32) (i:Nat) (x:UInt32):(s.map W32).set i (W32 x)=(s.set i x).map W32:=by rw[QAu]
theorem Qc1:(Tryz.prog.info? 50).map (·.size)=some 1:=by kernel_rfl
set_option maxRecDepth 100000 in
set_option maxHeartbeats 2000000 in
theorem Qn3 (g:Nat) (t:TypeId) (s:List UInt32) (a b c d:Nat) (ia ib ic id:Int) (ha:ia=(a:Int)) (hb:ib=(b:Int)) (hc:ic=(c:Int)) (hd:id=(d:Int)) (w:World) (hs:Blk w g t (s.map W32)) (hl:s.length=16) (h1:a<16) (h2:b<16) (h3:c<16) (h4:d<16):
 Calls Tryz.prog 187 #[.pointer (some ⟨g,0,none⟩),.int .i64 ia,.int .i64 ib,.int .i64 ic,.int .i64 id] w fun e w'=>e= .returned (.tuple #[])∧Blk w' g t ((QcN s a b c d).map W32)∧Only g w w':=by
 subst ha hb hc hd
 have d1:=hs.cellD a (Qfw (s:=s) (by omega))
 have d2:=hs.cellD b (Qfw (s:=s) (by omega))
 have d3:=hs.cellD c (Qfw (s:=s) (by omega))
 have d4:=hs.cellD d (Qfw (s:=s) (by omega))
 have hq:=hid Qkq
 have hR:=hid (show QcN s a b c d=putQ s a b c d (Qka (wAt s a) (wAt s b) (wAt s c) (wAt s d)) from rfl)
 generalize QcN s a b c d=R at *
 generalize wAt s a=xa at *
 generalize wAt s b=xb at *
 generalize wAt s c=xc at *
 generalize wAt s d=xd at *
 go_enter Tryz.func187,Tryz.ntmps187
 go_wp2_with fail
 refine QfL [([0,1,2,3,4,5,6,7,34,37,40,43],[8,9,10,11,12,13,14,15,16,17,18,19,20,21,22,23,24,25,26,27],28)] [29,30,31,32,33] [35] [36,38,39,41,42,44,45] (by as_aux_lemma=>kernel_rfl) (by as_aux_lemma=>kernel_rfl) (by intro _ _ d _ _ h;cases d<;>exact h) ?_
 simp only[QeO,pick,Qym,Qyn,Qyp,Qys,Qyr]
 repeat (go_big_quiet_step (fail))
 refine wpQuiet_nil ?_
 repeat (go_big_quiet_step (fail))
 refine wpQuiet_nil ?_
 go_wp2_with fail
 refine (hq.out _ _ _ _ _).mono ?_;rintro e w1 ⟨rfl,rfl⟩
 generalize Qka xa xb xc xd=q at *
 obtain⟨qa,qb,qc,qd⟩:=q
 go_wp2_with fail
 try refine⟨by first|assumption|exact Qab _|exact Qaa _ _|exact Later.refl _,?_⟩
 try simp only[QeO,pick,Qym,Qyn,Qyp,Qys,Qyr]
 repeat (go_big_quiet_step (fail))
 refine wpQuiet_nil ?_
 repeat (go_big_quiet_step (fail))
 refine wpQuiet_nil ?_
 have hs':=hs.drew
 go_wp2_with (first
  | (refine Qag rfl rfl _ _ _ rfl g a t _ hs' rfl (by rw[Qyo];omega) rfl Qc1 ?_;intro v' w5 hv' hb5 ho5;simp[go_sem]at hv';subst hv';rw[Qey]at hb5)
  | (refine Qag rfl rfl _ _ _ rfl g b t _ hb5 rfl (by rw[Qyo,QyY];omega) rfl Qc1 ?_;intro v' w6 hv' hb6 ho6;simp[go_sem]at hv';subst hv';rw[Qey]at hb6)
  | (refine Qag rfl rfl _ _ _ rfl g c t _ hb6 rfl (by rw[Qyo,QyY,QyY];omega) rfl Qc1 ?_;intro v' w7 hv' hb7 ho7;simp[go_sem]at hv';subst hv';rw[Qey]at hb7)
  | (refine Qag rfl rfl _ _ _ rfl g d t _ hb7 rfl (by rw[Qyo,QyY,QyY,QyY];omega) rfl Qc1 ?_;intro v' w8 hv' hb8 ho8;simp[go_sem]at hv';subst hv';rw[Qey]at hb8)
  | fail)
 exact bodyPost_end (results_none rfl _ _ _) rfl ⟨rfl,by rw[hR.out];exact hb8,(Qab _).thenOnly (((ho5.trans ho6).trans ho7).trans ho8)⟩
def chaC:List UInt32:=[1634760805,857760878,2036477234,1797285236]
def Qii (key:List UInt8) (k:Nat):List UInt32:=chaC++(Qy0 k).map (leW key)++Qyl (12-k) 0
def Qiv (key nonce:List UInt8) (ctr:UInt32) (k:Nat):List UInt32:=chaC++(Qy0 8).map (leW key)++[ctr]++(Qy0 k).map (leW nonce)++Qyl (3-k) 0
def Qgf (key nonce:List UInt8) (ctr:UInt32):List UInt32:=chaC++(Qy0 8).map (leW key)++[ctr]++(Qy0 3).map (leW nonce)
theorem QjI (key:List UInt8) (k:Nat) (h:k≤12):(Qii key k).length=16:=by
 simp[Qii,chaC]
 omega
theorem Qi9 (key nonce:List UInt8) (ctr:UInt32) (k:Nat) (h:k≤3):(Qiv key nonce ctr k).length=16:=by
 simp[Qiv,chaC]
 omega
theorem QfG (key nonce:List UInt8) (ctr:UInt32):(Qgf key nonce ctr).length=16:=by simp[Qgf,chaC]
theorem Qjm {α:Type} (z:α) (pre:List α) (f:Nat→α) (k n:Nat) (h:k<n):(pre++(Qy0 k).map f++Qyl (n-k) z).set (pre.length+k) (f k)=pre++(Qy0 (k+1)).map f++Qyl (n-(k+1)) z:=by
 have e:n-k=(n-(k+1))+1:=by omega
 rw[e,QzA,Qy3 _ _ (by simp),QAf,QyZ]
 simp
theorem QmW (key:List UInt8) (k:Nat) (h:k<8):(Qii key k).set (4+k) (leW key k)=Qii key (k+1):=Qjm 0 chaC (leW key) k 12 (by omega)
theorem Qm7 (key nonce:List UInt8) (ctr:UInt32) (k:Nat) (h:k<3):(Qiv key nonce ctr k).set (13+k) (leW nonce k)=Qiv key nonce ctr (k+1):=by
 have:=Qjm 0 (chaC++(Qy0 8).map (leW key)++[ctr]) (leW nonce) k 3 h
 rw[show (chaC++(Qy0 8).map (leW key)++[ctr]).length=13 by simp[chaC]]at this
 exact this
theorem QvH (key nonce:List UInt8) (ctr:UInt32):(Qii key 8).set 12 ctr=Qiv key nonce ctr 0:=by
 rw[Qii,Qiv,Qy3 _ _ (by simp[chaC])]
 simp[chaC]
theorem Qov (key nonce:List UInt8) (ctr:UInt32):Qiv key nonce ctr 3=Qgf key nonce ctr:=by simp[Qiv,Qgf]
theorem QkA:(Tryz.prog.info? 314).map (·.size)=some 16:=by kernel_rfl
section
variable {ops:Array Oper} {rest:List Oper} {o:Oper} {a:Act} {w:World} {Q:Exit→Act→World→Prop}
theorem QkO (hgd:o.guard=none) (hd:o.dst=none) (x y:Operand) (ho:o.op= .store 314 x y) {g:Nat} {t:TypeId} {l:List Value} {vs:List UInt32} (hg:Blk w g t l) (hx:a.eval x= .pointer (some ⟨g,0,none⟩)) (hy:a.eval y= .agg (vs.map W32).toArray)
 (hn:vs.length=16) (hl:l.length=16) (h:∀w',Blk w' g t (vs.map W32)→Only g w w'→wpList Tryz.prog ops Q rest a w'):wpList Tryz.prog ops Q (o :: rest) a w:=
 Qal hgd hd _ x y ho g 0 t l (vs.map W32) hg hx hy (by rw[Qyo,hn];exact QkA) (by rw[Qyo];omega) (Qkp _) (fun w' hb=>h w' (by rwa [Qap _ _ (by rw[Qyo];omega)]at hb))
theorem QpU (hgd:o.guard=none) (x:Operand) (ho:o.op= .load 314 x) {g:Nat} {t:TypeId} {vs:List UInt32} (hb:Blk w g t (vs.map W32)) (hl:vs.length=16) (hx:a.eval x= .pointer (some ⟨g,0,none⟩))
 (h:wpList Tryz.prog ops Q rest (a.put o.dst (.agg (vs.map W32).toArray)) w):wpList Tryz.prog ops Q (o :: rest) a w:=
 Qau hgd _ x ho g 0 (vs.map W32) (fun j v hv=>by rw[QyE];exact hb.cellD j hv) hx _ Tryz.underlying314 rfl (by rw[Qyo,hl];exact QkA) h
end
set_option maxRecDepth 100000 in
set_option maxHeartbeats 4000000 in
theorem QkR (A B:Option Addr) (c d:Nat) (key nonce:List UInt8) (ctr:UInt32) (w:World) (hk:RdB w A 32 key) (hn:RdB w B 12 nonce):
 Calls Tryz.prog 186 #[.slice A 32 c,.slice B 12 d,W32 ctr] w fun e w'=>e= .returned (.agg ((Qgf key nonce ctr).map W32).toArray)∧Later w w':=by
 have hA:=hid (QjI key)
 have hB:=hid (Qi9 key nonce ctr)
 have sA:=hid (QmW key)
 have sB:=hid (Qm7 key nonce ctr)
 have hAB:=hid (QvH key nonce ctr)
 have hBA:=hid (Qov key nonce ctr)
 have hL:=QfG key nonce ctr
 have h0:=hid (show Qii key 0=[1634760805,857760878,2036477234,1797285236,0,0,0,0,0,0,0,0,0,0,0,0] from rfl)
 have hw:=hid (fun k i w hi h hk=>Qln A 32 c key k i hi w h hk (by omega))
 have hw2:=hid (fun k i w hi h hk=>Qln B 12 d nonce k i hi w h hk (by omega))
 generalize Qgf key nonce ctr=L0 at *
 go_enter Tryz.func186,Tryz.ntmps186
 go_wp2_with (first
  | (refine Qar rfl 314 _ rfl (([1634760805,857760878,2036477234,1797285236,0,0,0,0,0,0,0,0,0,0,0,0]:List UInt32).map W32) ?hb ?_;(case hb=>kernel_rfl))
  | fail)
 have hR:=(Blk.new w 314 (Qyl 16 (Value.int .u32 0))).later (Qaa _ (.cells #[W32 1634760805,W32 857760878,W32 2036477234,W32 1797285236,W32 0,W32 0,W32 0,W32 0,W32 0,W32 0,W32 0,W32 0,W32 0,W32 0,W32 0,W32 0] 314))
 have hS:Blk ((w.alloc (.cells (Qyl 16 (Value.int .u32 0)).toArray 314)).alloc (.cells #[W32 1634760805,W32 857760878,W32 2036477234,W32 1797285236,W32 0,W32 0,W32 0,W32 0,W32 0,W32 0,W32 0,W32 0,W32 0,W32 0,W32 0,W32 0] 314)) (w.heap.size+1) 314 ((Qii key 0).map W32):=by
  rw[h0.out]
  exact Blk.new' (w.alloc _) _ _ (by simp)
 have L0:=(Qaa w (.cells (Qyl 16 (Value.int .u32 0)).toArray 314)).trans (Qaa _ (.cells #[W32 1634760805,W32 857760878,W32 2036477234,W32 1797285236,W32 0,W32 0,W32 0,W32 0,W32 0,W32 0,W32 0,W32 0,W32 0,W32 0,W32 0,W32 0] 314))
 go_loopw [8] (fun i wr=>∃k:Nat,k≤8∧i= .int .i64 k∧Later w wr∧Blk wr w.heap.size 314 (Qyl 16 (Value.int .u32 0))∧Blk wr (w.heap.size+1) 314 ((Qii key k).map W32)) (fun i _=>8-(intOf i).toNat)
 case atStart=>exact⟨0,by omega,rfl,L0,hR,hS⟩
 case round=>
  clear L0 hR hS
  obtain⟨k,hk',rfl,L,hR,hS⟩:=hrel
  by_cases hlt:k<8
  ·have hl:=hA.out k (by omega)
   have HST:=hid (sA.out k hlt)
   have t4:((4:Int)+(k:Int)).toNat=4+k:=by omega
   go_wp2_with fail
   (refine (hw.out k _ _ rfl (hk.later L) (by omega)).mono ?_);rintro e w3 ⟨rfl,j3⟩
   go_wp2_with (first
    | (refine Qag rfl rfl _ _ _ rfl (w.heap.size+1) (4+k) _ _ (hS.later j3) rfl (by rw[Qyo];omega) rfl Qc1 ?_;intro v' w5 hv' hb5 ho5;simp[go_sem]at hv';subst hv';rw[Qey,HST.out]at hb5)
    | fail)
   go_roundw
   case rel=>exact⟨k+1,by omega,by go_num,(L.trans j3).only ho5 (by omega),(hR.later j3).only ho5 (by omega),hb5⟩
   case measure=>simp[intOf];omega
  ·obtain rfl:8=k:=by omega
   have hl:=hA.out 8 (by omega)
   go_wp2_with (first
    | (refine Qag rfl rfl _ _ _ rfl (w.heap.size+1) 12 _ _ hS rfl (by rw[Qyo];omega) rfl Qc1 ?_;intro v' w5 hv' hb5 ho5;simp[go_sem]at hv';subst hv';rw[Qey,hAB.out]at hb5)
    | fail)
   have L5:=L.only ho5 (by omega)
   have hR5:=hR.only ho5 (by omega)
   clear L hR hS ho5
   go_loopw [9] (fun i wr=>∃k:Nat,k≤3∧i= .int .i64 k∧Later w wr∧Blk wr w.heap.size 314 (Qyl 16 (Value.int .u32 0))∧Blk wr (w.heap.size+1) 314 ((Qiv key nonce ctr k).map W32)) (fun i _=>3-(intOf i).toNat)
   case atStart=>exact⟨0,by omega,rfl,L5,hR5,hb5⟩
   case round=>
    clear L5 hR5 hb5
    obtain⟨k,hk',rfl,L,hR,hS⟩:=hrel
    by_cases hlt:k<3
    ·have hl:=hB.out k (by omega)
     have HST:=hid (sB.out k hlt)
     have t4:((13:Int)+(k:Int)).toNat=13+k:=by omega
     go_wp2_with fail
     (refine (hw2.out k _ _ rfl (hn.later L) (by omega)).mono ?_);rintro e w3 ⟨rfl,j3⟩
     go_wp2_with (first
      | (refine Qag rfl rfl _ _ _ rfl (w.heap.size+1) (13+k) _ _ (hS.later j3) rfl (by rw[Qyo];omega) rfl Qc1 ?_;intro v' w5 hv' hb5 ho5;simp[go_sem]at hv';subst hv';rw[Qey,HST.out]at hb5)
      | fail)
     go_roundw
     case rel=>(repeat apply Exists.intro);exact⟨⟨k+1,by omega,by go_num,(L.trans j3).only ho5 (by omega),(hR.later j3).only ho5 (by omega),hb5⟩,rfl⟩
     case measure=>simp[intOf];omega
    ·obtain rfl:3=k:=by omega
     rw[hBA.out]at hS
     go_wp2_with (first
      | (refine QpU rfl _ rfl hS hL rfl ?_)
      | (refine QkO rfl rfl _ _ rfl hR rfl rfl hL rfl ?_;intro w9 hb9 ho9)
      | fail)
     exact bodyPost_ret (QaK rfl _ _ _ _ _ _ hb9 rfl Tryz.underlying314 rfl (by rw[Qyo,hL];exact QkA)) rfl ⟨rfl,L.only ho9 (Qyv _)⟩
def dbl (s:List UInt32):List UInt32:=
 QcN (QcN (QcN (QcN (QcN (QcN (QcN (QcN s 0 4 8 12) 1 5 9 13) 2 6 10 14) 3 7 11 15) 0 5 10 15) 1 6 11 12) 2 7 8 13) 3 4 9 14
def dblN (s:List UInt32):Nat→List UInt32
 | 0=>s
 | k+1=>dbl (dblN s k)
theorem Qnf (s:List UInt32):(dbl s).length=s.length:=by simp[dbl,Qdv]
theorem Qgx (s:List UInt32):∀k,(dblN s k).length=s.length
 | 0=>rfl
 | k+1=>by rw[dblN,Qnf,Qgx s k]
def le4 (x:UInt32):List UInt8:=[x.toUInt8,(QbJ x 8).toUInt8,(QbJ x 16).toUInt8,(QbJ x 24).toUInt8]
def Qef (f s:List UInt32) (k:Nat):List UInt8:=(Qy0 k).flatMap fun i=>le4 (wAt f i+wAt s i)
theorem Qgc (f s:List UInt32) (k:Nat):Qef f s (k+1)=Qef f s k++le4 (wAt f k+wAt s k):=by
 simp[Qef,QAf]
theorem Qdo (f s:List UInt32):∀k,(Qef f s k).length=4*k
 | 0=>rfl
 | k+1=>by rw[Qgc,Qyz,Qdo f s k,le4];simp;omega
def chaB (key nonce:List UInt8) (ctr:UInt32):List UInt8:=Qef (dblN (Qgf key nonce ctr) 10) (Qgf key nonce ctr) 16
theorem Qf3 (key nonce:List UInt8) (ctr:UInt32):(chaB key nonce ctr).length=64:=Qdo _ _ 16
theorem QiN {w:World} {base:Nat} {A:Option Addr} {n c:Nat} {xs ys:List UInt8} (h:w.ownsRow base 5 1 (.slice A n c) n (xs.map W8++ys.map W8)):OwnB w base A n c (xs++ys):=by
 rw[←QyZ]at h
 exact h
theorem Qqz (g:Nat) (t:TypeId) (s:List UInt32) (a b c d:Nat) (ia ib ic id:Int) (ha:ia=(a:Int)) (hb:ib=(b:Int)) (hc:ic=(c:Int)) (hd:id=(d:Int)) (w:World) (hs:Blk w g t (s.map W32)) (hl:s.length=16) (h1:a<16) (h2:b<16) (h3:c<16) (h4:d<16):
 Calls Tryz.prog 187 #[.pointer (some ⟨g,0,none⟩),.int .i64 ia,.int .i64 ib,.int .i64 ic,.int .i64 id] w fun e w'=>e= .returned (.tuple #[])∧∃s',Hid (s'=QcN s a b c d)∧s'.length=16∧Blk w' g t (s'.map W32)∧Only g w w':=
 (Qn3 g t s a b c d ia ib ic id ha hb hc hd w hs hl h1 h2 h3 h4).mono fun _ _ ⟨he,hb,ho⟩=>⟨he,_,hid rfl,(Qdv s a b c d).trans hl,hb,ho⟩
set_option maxRecDepth 100000 in
set_option maxHeartbeats 8000000 in
theorem QoP (A B:Option Addr) (c d:Nat) (key nonce:List UInt8) (ctr:UInt32) (w:World) (hk:RdB w A 32 key) (hn:RdB w B 12 nonce):
 Calls Tryz.prog 180 #[.slice A 32 c,.slice B 12 d,W32 ctr] w fun e w'=>∃A' c',e= .returned (.tuple #[.slice A' 64 c',.int .i64 0])∧OwnB w' w.heap.size A' 64 c' (chaB key nonce ctr)∧Later w w':=by
 have hI:=hid (QkR A B c d key nonce ctr w hk hn)
 have hsl:=QfG key nonce ctr
 have hC:=hid (show chaB key nonce ctr=Qef (dblN (Qgf key nonce ctr) 10) (Qgf key nonce ctr) 16 from rfl)
 generalize Qgf key nonce ctr=S at *
 generalize chaB key nonce ctr=CB at *
 have hr:=hid Qqz
 have hdl:=hid (fun k=>(Qgx S k).trans hsl)
 have hrl:=hid Qdv
 have hd1:=hid (fun k=>show dblN S (k+1)=dbl (dblN S k) from rfl)
 go_enter Tryz.func180,Tryz.ntmps180
 go_wp2_with fail
 (with_reducible refine (hI.out).mono ?_);rintro e w1 ⟨rfl,j1⟩
 go_wp2_with (first
  | (refine QkO rfl rfl _ _ rfl (Blk.new w1 _ (Qyl 16 (.int .u32 0))) rfl rfl hsl rfl ?_;intro w2 hb2 ho2
     have B2:=(Bag.none w).push (j1.trans (Qaa w1 _)) j1.size ho2 hb2)
  | (refine QpU rfl _ rfl (B2.nth 0 rfl) hsl rfl ?_)
  | (refine QkO rfl rfl _ _ rfl (Blk.new w2 _ (Qyl 16 (.int .u32 0))) rfl rfl hsl rfl ?_;intro w3 hb3 ho3
     have B3:=B2.push (Qaa w2 _) (Qyv _) ho3 hb3)
  | fail)
 clear B2 hb2 hb3 ho2 ho3 j1
 generalize w1.heap.size=g8 at *
 generalize w2.heap.size=g9 at *
 go_loopw [26] (fun i wr=>∃k:Nat,k≤10∧i= .int .i64 k∧Bag w wr [(g9,314,(dblN S k).map W32),(g8,314,S.map W32)]) (fun i _=>10-(intOf i).toNat)
 case atStart=>exact⟨0,by omega,rfl,B3⟩
 case round=>
  clear B3
  obtain⟨k,hk',rfl,B3⟩:=hrel
  by_cases hlt:k<10
  ·have hl:=hdl.out k
   have hd2:=hid (hd1.out k)
   generalize dblN S k=T at *
   obtain⟨T0,hT0⟩:∃T0,T0=dblN S (k+1):=⟨_,rfl⟩
   rw[←hT0]at hd2
   replace hT0:=hid hT0
   go_wp2_with fail
   have b0:=B3.nth 0 rfl
   (refine (hr.out g9 _ T 0 4 8 12 _ _ _ _ rfl rfl rfl rfl _ b0 hl (by omega) (by omega) (by omega) (by omega)).mono ?_);rintro e w4 ⟨rfl,T1,e1,l1,b1,o1⟩
   go_wp2_with fail
   (refine (hr.out g9 _ T1 1 5 9 13 _ _ _ _ rfl rfl rfl rfl _ b1 l1 (by omega) (by omega) (by omega) (by omega)).mono ?_);rintro e w5 ⟨rfl,T2,e2,l2,b2,o2⟩
   clear b1
   go_wp2_with fail
   (refine (hr.out g9 _ T2 2 6 10 14 _ _ _ _ rfl rfl rfl rfl _ b2 l2 (by omega) (by omega) (by omega) (by omega)).mono ?_);rintro e w6 ⟨rfl,T3,e3,l3,b3,o3⟩
   clear b2
   go_wp2_with fail
   (refine (hr.out g9 _ T3 3 7 11 15 _ _ _ _ rfl rfl rfl rfl _ b3 l3 (by omega) (by omega) (by omega) (by omega)).mono ?_);rintro e w7 ⟨rfl,T4,e4,l4,b4,o4⟩
   clear b3
   go_wp2_with fail
   (refine (hr.out g9 _ T4 0 5 10 15 _ _ _ _ rfl rfl rfl rfl _ b4 l4 (by omega) (by omega) (by omega) (by omega)).mono ?_);rintro e w8 ⟨rfl,T5,e5,l5,b5,o5⟩
   clear b4
   go_wp2_with fail
   (refine (hr.out g9 _ T5 1 6 11 12 _ _ _ _ rfl rfl rfl rfl _ b5 l5 (by omega) (by omega) (by omega) (by omega)).mono ?_);rintro e w9 ⟨rfl,T6,e6,l6,b6,o6⟩
   clear b5
   go_wp2_with fail
   (refine (hr.out g9 _ T6 2 7 8 13 _ _ _ _ rfl rfl rfl rfl _ b6 l6 (by omega) (by omega) (by omega) (by omega)).mono ?_);rintro e w10 ⟨rfl,T7,e7,l7,b7,o7⟩
   clear b6
   go_wp2_with fail
   (refine (hr.out g9 _ T7 3 4 9 14 _ _ _ _ rfl rfl rfl rfl _ b7 l7 (by omega) (by omega) (by omega) (by omega)).mono ?_);rintro e w11 ⟨rfl,T8,e8,l8,b8,o8⟩
   clear b7
   go_wp2_with fail
   go_roundw
   case rel=>
    refine⟨k+1,by omega,by go_num,?_⟩
    rw[←hT0.out,hd2.out,dbl,←e1.out,←e2.out,←e3.out,←e4.out,←e5.out,←e6.out,←e7.out,←e8.out]
    exact B3.write 0 rfl (((((((o1.trans o2).trans o3).trans o4).trans o5).trans o6).trans o7).trans o8) b8
   case measure=>simp[intOf];omega
  ·obtain rfl:10=k:=by omega
   have hl:=hdl.out 10
   generalize dblN S 10=F at *
   have hCs:=hid (Qgc F S)
   have hCl:=hid (Qdo F S)
   have hC0:=hid (show Qef F S 0=[] from rfl)
   go_wp2_with (first
    | (refine QbU rfl _ _ _ rfl 5 _ 1 Tryz.underlying25 QcG rfl _ _ _ _ 0 64 rfl rfl rfl rfl (by omega) (by omega) (by omega) ?_;intro w4 hown4 hl4)
    | (refine QpU rfl _ rfl ((B3.nth 0 rfl).later hl4) hl rfl ?_)
    | fail)
   have hgr:=B3.lat.size
   have B4:=B3.later hl4
   have hown5:OwnB w4 w.heap.size (some ⟨wr.heap.size,0,none⟩) 0 64 (Qef F S 0):=by
    rw[hC0.out]
    exact QbR hown4 hgr
   clear B3 hown4 hl4
   generalize wr.heap.size=g10 at *
   go_loopw [10,39] (fun v i wr=>∃(k:Nat) (A':Option Addr) (c':Nat),k≤16∧i= .int .i64 k∧v= .slice A' (4*k) c'∧OwnB wr w.heap.size A' (4*k) c' (Qef F S k)∧Later w wr∧Blk wr g8 314 (S.map W32)) (fun _ i _=>16-(intOf i).toNat)
   case atStart=>exact⟨0,_,_,by omega,rfl,rfl,hown5,B4.lat,B4.nth 1 rfl⟩
   case round=>
    clear hown5 B4 hgr
    obtain⟨k,A6,c6,hk6,rfl,rfl,hown,L,h8⟩:=hrel
    by_cases hlt:k<16
    ·have HCS:=hid (hCs.out k)
     have c8:=h8.cellD k (Qfw (s:=S) (by omega))
     have hix:∀W',(Instr.index 314 (.agg (F.map W32).toArray) (.int .i64 (k:Int))).run Tryz.prog W'= .ok (W32 (wAt F k)) W':=fun W'=>Qdt Tryz.underlying314 Qc1 Tryz.underlying50 rfl (F.map W32) .i64 k (W32 (wAt F k)) hlt (Qfw (by omega)) W'
     generalize wAt F k=xf at *
     generalize wAt S k=xs at *
     generalize Qef F S k=O at *
     have hle:Hid ([xf.toUInt8+xs.toUInt8,(QbJ (xf+xs) 8).toUInt8,(QbJ (xf+xs) 16).toUInt8,(QbJ (xf+xs) 24).toUInt8]=le4 (xf+xs)):=hid (by rw[le4,UInt32.toUInt8_add])
     have J:=Qaa wr (.cells #[W8 (xf.toUInt8+xs.toUInt8),W8 (QbJ (xf+xs) 8).toUInt8,W8 (QbJ (xf+xs) 16).toUInt8,W8 (QbJ (xf+xs) 24).toUInt8] 5)
     go_wp2_with (first
      | (refine QaJ rfl _ _ _ rfl 5 _ 1 Tryz.underlying25 QcG rfl w _ (4*k) _ (hown.later J) (L.trans J) _ 4 4 _ ((Blk.new wr 5 [W8 (xf.toUInt8+xs.toUInt8),W8 (QbJ (xf+xs) 8).toUInt8,W8 (QbJ (xf+xs) 16).toUInt8,W8 (QbJ (xf+xs) 24).toUInt8]).rd rfl) (QaC [xf.toUInt8+xs.toUInt8,(QbJ (xf+xs) 8).toUInt8,(QbJ (xf+xs) 16).toUInt8,(QbJ (xf+xs) 24).toUInt8]) rfl rfl (by omega) (by omega) ?_;intro A7 c7 w7 hown7 hl7 hg7 _)
      | fail)
     have hown8:OwnB w7 w.heap.size A7 (4*k+4) c7 (O++le4 (xf+xs)):=by
      rw[←hle.out]
      exact QiN hown7
     rw[←HCS.out]at hown8
     have h9:=QgU (h8.later J) (hown.later J) (by decide) hg7
     go_roundw
     case rel=>exact⟨k+1,A7,c7,by omega,by go_num,rfl,hown8,hl7,h9⟩
     case measure=>simp[intOf];omega
    ·obtain rfl:16=k:=by omega
     rw[←hC.out]at hown
     go_wp2_with fail
     go_ret2
     exact⟨_,_,rfl,hown,L⟩
def chaF (key:List UInt8) (k:Nat):List UInt8:=(Qy0 k).flatMap fun i=>chaB key (Qyl 12 0) (QyU i)
theorem Qgu (key:List UInt8) (k:Nat):chaF key (k+1)=chaF key k++chaB key (Qyl 12 0) (QyU k):=by simp[chaF,QAf]
theorem Qdy (key:List UInt8):∀k,(chaF key k).length=64*k
 | 0=>rfl
 | k+1=>by rw[Qgu,Qyz,Qdy key k,Qf3];omega
def chaS (key:List UInt8) (n:Nat):List UInt8:=(chaF key ((n+63)/64)).take n
theorem Qb8 (key:List UInt8) (n:Nat):(chaS key n).length=n:=by
 rw[chaS,QyW,Qdy]
 omega
theorem QiV (key:List UInt8) (k:Nat):∀j,∃r,chaF key (k+j)=chaF key k++r
 | 0=>⟨[],by simp⟩
 | j+1=>by
   obtain⟨r,h⟩:=QiV key k j
   exact⟨r++chaB key (Qyl 12 0) (QyU (k+j)),by rw[←Nat.add_assoc,Qgu,h,QyK]⟩
theorem Qnx (key:List UInt8) (n k:Nat) (h:n≤64*k):chaS key n=(chaF key k).take n:=by
 obtain⟨r,hr⟩:=QiV key ((n+63)/64) (k-(n+63)/64)
 rw[Nat.add_sub_cancel' (by omega)]at hr
 rw[hr,chaS,Qza (by rw[Qdy];omega)]
theorem Qjc {α:Type} (l r:List α) (m n:Nat) (h:l.length=m) (hm:m≤n):(l++r).take n=l++r.take (n-m):=by
 rw[List.take_append,h,QyA (by omega)]
theorem Qkn (k:Nat) (w:World):(convert 3 50 (.int .i64 (k:Int))).run Tryz.prog w= .ok (W32 (QyU k)) w:=by
 have h:=run_convert_int (P:=Tryz.prog) (w:=w) 3 50 .i64 (k:Int) (by rw[Tryz.underlying3];rfl) (by unfold Program.intKind;rw[Tryz.underlying50])
 have e:Tryz.prog.intKind 50= .u32:=by unfold Program.intKind;rw[Tryz.underlying50]
 rw[e]at h
 refine h.trans ?_
 congr 1
set_option maxRecDepth 100000 in
set_option maxHeartbeats 4000000 in
theorem Qjg (A:Option Addr) (c n:Nat) (key:List UInt8) (w:World) (hk:RdB w A 32 key) (hn:n≤65536):
 Calls Tryz.prog 176 #[.slice A 32 c,.int .i64 0,.int .i64 n] w fun e w'=>∃A' c',e= .returned (.slice A' n c')∧OwnB w' w.heap.size A' n c' (chaS key n)∧Later w w':=by
 have hB:=hid (fun B d ctr (w':World) (hl:Later w w') hn=>QoP A B c d key (Qyl 12 0) ctr w' (hk.later hl) hn)
 have hs1:=hid (Qgu key)
 have hl1:=hid (Qdy key)
 have hS:=hid (Qnx key n)
 have hbl:=hid (fun ctr=>Qf3 key (Qyl 12 0) ctr)
 have h0:=hid (show (chaF key 0).take 0=[] from rfl)
 go_enter Tryz.func176,Tryz.ntmps176
 go_wp2_with (first
  | (refine QaT rfl _ _ _ rfl 5 _ 1 Tryz.underlying25 QcG rfl _ _ _ _ 12 rfl rfl rfl rfl (by omega) (by omega) ?_;intro w1 hb1 hl1')
  | (refine QbU rfl _ _ _ rfl 5 _ 1 Tryz.underlying25 QcG rfl _ _ _ _ 0 n rfl rfl rfl rfl (by omega) (by omega) (by omega) ?_;intro w2 hown2 hl2)
  | fail)
 have hz1:=hl1'.size
 have hlt1:=hb1.lt
 have L2:=hl1'.trans hl2
 have hbase:w.heap.size<w1.heap.size:=hlt1
 have hown3:OwnB w2 w1.heap.size (some ⟨w1.heap.size,0,none⟩) 0 n ((chaF key 0).take 0):=by
  rw[h0.out]
  exact hown2
 have hno:RdB w1 (some ⟨w.heap.size,0,none⟩) 12 (Qyl 12 0):=hb1.rd rfl
 clear hb1 hown2 L2 hz1
 have hL1:=hl2
 go_loopw [1,8] (fun at_ v wr=>∃(k m:Nat) (A':Option Addr) (c':Nat),at_= .int .i64 m∧v= .slice A' m c'∧m≤n∧m≤64*k∧(m<n→m=64*k)∧OwnB wr w1.heap.size A' m c' ((chaF key k).take m)∧Later w1 wr) (fun _ v _=>n-lenOf v)
 case atStart=>exact⟨0,0,_,_,rfl,rfl,by omega,by omega,fun _=>rfl,hown3,hL1⟩
 case round=>
  clear hown3 hL1 hl2
  obtain⟨k,m,A6,c6,rfl,rfl,hmn,hmk,hm64,hown,L⟩:=hrel
  by_cases hlt:m<n
  ·have hm:=hm64 hlt
   have hq:(m:Int)/64=(k:Int):=by omega
   have hr:(m:Int)%64=0:=by omega
   have hcv:=Qkn k
   have hb:=hid (hs1.out k)
   have hBl:=hid (hbl.out (QyU k))
   have HM:=hid hm
   have HFl:=hid (hl1.out k)
   clear hm hm64
   go_wp2_with fail
   (with_reducible refine (hB.out _ _ _ _ (hl1'.trans L) (hno.later L)).mono ?_);rintro e w4 ⟨A9,c9,rfl,hown9,j9⟩
   have hrd9:=hown9.rd
   have hcap:=hown9.cap
   have hcut:∀W,(Instr.sliceAt 25 (.slice A9 64 c9) (some (.int .i64 0)) none none).run Tryz.prog W= .ok (.slice A9 64 c9) W:=fun W=>by
    have h:=QjH A9 64 c9 .i64 0 (by omega) W
    simpa [QjG] using h
   generalize chaB key (Qyl 12 0) (QyU k)=Bk at *
   generalize chaF key k=Fk at *
   by_cases hbig:n-m<64
   ·obtain⟨q,hqn⟩:∃q,n=m+q:=⟨n-m,by omega⟩
    have hb1:((n:Int)-(m:Int))<64:=by omega
    have hcut2:∀W,(Instr.sliceAt 25 (.slice A9 64 c9) none (some (.int .i64 ((n:Int)-(m:Int)))) none).run Tryz.prog W= .ok (.slice A9 q c9) W:=fun W=>by
     rw[show (n:Int)-(m:Int)=(q:Int) by omega]
     exact QnE A9 64 c9 .i64 q (by omega) W
    have hq64:q<64:=by omega
    have hrq:=hrd9.take (m:=q) (by omega)
    have hmq:m+q≤65536:=by omega
    replace hqn:=hid hqn
    go_wp2_with (first
     | (refine QaJ rfl _ _ _ rfl 5 _ 1 Tryz.underlying25 QcG rfl w1 _ m _ (hown.later j9) (L.trans j9) A9 q c9 _ hrq (QaC _) rfl rfl (by omega) (by omega) ?_;intro A7 c7 w7 hown7 hl7 hg7 _)
     | fail)
    have hown8:=QiN hown7
    go_roundw
    case rel=>
     refine⟨k+1,m+q,A7,c7,by go_num,rfl,by have:=hqn.out;omega,by have:=HM.out;omega,fun h=>by have:=hqn.out;omega,?_,hl7⟩
     rw[hb.out,Qjc _ _ _ _ HFl.out (by have:=HM.out;omega),show m+q-64*k=q by have:=HM.out;omega]
     rw[QyA (by rw[HFl.out,HM.out];omega)]at hown8
     exact hown8
    case measure=>have:=hqn.out;simp[lenOf];omega
   ·have hb1: ¬((n:Int)-(m:Int))<64:=by omega
    go_wp2_with (first
     | (refine QaJ rfl _ _ _ rfl 5 _ 1 Tryz.underlying25 QcG rfl w1 _ m _ (hown.later j9) (L.trans j9) A9 64 c9 _ hrd9 (QaC _) rfl rfl (by omega) (by omega) ?_;intro A7 c7 w7 hown7 hl7 hg7 _)
     | fail)
    have hown8:=QiN hown7
    go_roundw
    case rel=>
     refine⟨k+1,m+64,A7,c7,by go_num,rfl,by omega,by have:=HM.out;omega,fun h=>by have:=HM.out;omega,?_,hl7⟩
     rw[hb.out,Qjc _ _ _ _ HFl.out (by have:=HM.out;omega),show m+64-64*k=64 by have:=HM.out;omega,QyA (by rw[hBl.out];omega)]
     rw[QyA (by rw[HFl.out,HM.out];omega)]at hown8
     exact hown8
    case measure=>simp[lenOf];omega
  ·obtain rfl:n=m:=by omega
   have hE:=hid (hS.out k hmk)
   rw[←hE.out]at hown
   go_wp2_with fail
   go_ret
   exact⟨_,_,rfl,hown.mono (Nat.le_of_lt hbase),hl1'.trans L⟩
theorem Qne (A:Option Addr) (c n:Nat) (key:List UInt8) (w:World) (hk:RdB w A 32 key) (hn:n≤65536):
 Calls Tryz.prog 168 #[.slice A 32 c,.int .i64 n] w fun e w'=>∃A' c',e= .returned (.tuple #[.slice A' n c',.int .i64 0])∧OwnB w' w.heap.size A' n c' (chaS key n)∧Later w w':=by
 have hp:=hid (fun c (w:World) h=>Qjg A c n key w h hn)
 go_enter Tryz.func168,Tryz.ntmps168
 go_wp2_with fail
 (with_reducible refine (hp.out _ _ hk).mono ?_);rintro e w1 ⟨A1,c1,rfl,ho1,j1⟩
 go_wp2_with fail
 go_ret2
 exact⟨_,_,rfl,ho1,j1⟩
end Go.Proofs.YtcbdgnlcknllnaaGreat
namespace Go.Proofs.YtcbdgnlcknllnaaGreat
namespace Ed
instance neP:NeZero P25:=⟨by decide⟩
abbrev Fp:=Fin P25
def toF (n:Nat):Fp:=Fin.ofNat P25 n
theorem QeC (n:Nat):(toF n).val=n%P25:=rfl
theorem Qsv (a:Fp):toF a.val=a:=Fin.ext (QyS a.isLt)
theorem QtF (n:Nat):toF (n%P25)=toF n:=Fin.ext (QAw _ _)
theorem QuA (a b:Nat):toF (a*b)=toF a*toF b:=Fin.ext (by rw[Fin.val_mul,QeC,QeC,QeC,←QAm])
theorem QqU:toF 0=0:=rfl
theorem QkN {a:Nat}:toF a=0↔a%P25=0:=by
 rw[←QqU,Fin.ext_iff,QeC,QeC,Nat.zero_mod]
theorem Qkz {a:Fp} (h:a≠0):a.val%P25≠0:=by
 intro h0
 apply h
 rw[←Qsv a]
 exact QkN.2 h0
def finv (a:Fp):Fp:=toF (pinv a.val)
theorem Qdw {a:Fp} (h:a≠0):a*finv a=1:=by
 have h1:=QrR a.val (Qkz h)
 have h2:toF (a.val*pinv a.val)=toF 1:=Fin.ext (by rw[QeC,QeC,h1];rfl)
 rw[QuA,Qsv]at h2
 exact h2
theorem QvL:(2:Fp)≠0:=by decide
theorem Qtr {a b:Fp} (h:a*b=0):a=0∨b=0:=by
 by_cases ha:a=0
 ·exact .inl ha
 ·have:=Qdw ha
  right
  grobner
theorem QvE {a b:Fp} (ha:a≠0) (hb:b≠0):a*b≠0:=fun h=>(Qtr h).elim ha hb
theorem QsJ {a b c:Fp} (hc:c≠0) (h:a*c=b*c):a=b:=by
 have:=Qdw hc
 grobner
def fpow (a:Fp) (n:Nat):Fp:=toF (a.val^n)
def Hp:Nat:=28948022309329048855892746252171976963317496166410141009864396001978282409974
def Op:Nat:=7237005577332262213973186563042994240829374041602535252466099000494570602494
def Qha (δ:Fp):Prop:=∀r:Fp,r*r≠δ
@[ext] structure Pt (δ:Fp) where
  x:Fp
  y:Fp
  on:x*x+y*y=1+δ*x*x*y*y
theorem QjJ {δ z w:Fp} (hδ:Qha δ) (h:w*w=δ*(z*z)):z=0:=by
 by_cases hz:z=0
 ·exact hz
 ·have:=Qdw hz
  exact absurd (show (w*finv z)*(w*finv z)=δ by grobner) (hδ _)
theorem Qly {δ:Fp} (hδ:Qha δ) {x1 y1 x2 y2 ε:Fp} (h1:x1*x1+y1*y1=1+δ*x1*x1*y1*y1) (h2:x2*x2+y2*y2=1+δ*x2*x2*y2*y2)
 (ht:δ*x1*x2*y1*y2=ε) (he:ε*ε=1):False:=by
 have a1:(x1+ε*y1)*(x1+ε*y1)=δ*((x1*y1*(x2+y2))*(x1*y1*(x2+y2))):=by grobner
 have a2:(x1-ε*y1)*(x1-ε*y1)=δ*((x1*y1*(x2-y2))*(x1*y1*(x2-y2))):=by grobner
 have b1:=QjJ hδ a1
 have b2:=QjJ hδ a2
 have c:2*(x1*y1*x2)=0:=by grobner
 have hn:2*(x1*y1*x2)≠0:=by
  refine QvE QvL ?_
  intro h0
  have:ε=0:=by rw[←ht];grobner
  rw[this]at he
  revert he
  decide
 exact hn c
section
variable {δ:Fp}
def tt (P Q:Pt δ):Fp:=δ*P.x*Q.x*P.y*Q.y
theorem Quv (hδ:Qha δ) (P Q:Pt δ):1+tt P Q≠0:=fun h=>Qly hδ (ε:= -1) P.on Q.on (by unfold tt at h;grobner) (by decide)
theorem QtT (hδ:Qha δ) (P Q:Pt δ):1-tt P Q≠0:=fun h=>Qly hδ (ε:=1) P.on Q.on (by unfold tt at h;grobner) (by decide)
theorem Qvh {x1 y1 x2 y2 i j:Fp} (h1:x1*x1+y1*y1=1+δ*x1*x1*y1*y1) (h2:x2*x2+y2*y2=1+δ*x2*x2*y2*y2)
 (hi:(1+δ*x1*x2*y1*y2)*i=1) (hj:(1-δ*x1*x2*y1*y2)*j=1):
 ((x1*y2+x2*y1)*i)*((x1*y2+x2*y1)*i)+((y1*y2-x1*x2)*j)*((y1*y2-x1*x2)*j)=1+δ*((x1*y2+x2*y1)*i)*((x1*y2+x2*y1)*i)*((y1*y2-x1*x2)*j)*((y1*y2-x1*x2)*j):=by
 have key:(x1*y2+x2*y1)*(x1*y2+x2*y1)*((1-δ*x1*x2*y1*y2)*(1-δ*x1*x2*y1*y2))+(y1*y2-x1*x2)*(y1*y2-x1*x2)*((1+δ*x1*x2*y1*y2)*(1+δ*x1*x2*y1*y2))
  = (1+δ*x1*x2*y1*y2)*(1+δ*x1*x2*y1*y2)*((1-δ*x1*x2*y1*y2)*(1-δ*x1*x2*y1*y2))+δ*((x1*y2+x2*y1)*(x1*y2+x2*y1))*((y1*y2-x1*x2)*(y1*y2-x1*x2)):=by grobner
 generalize x1*y2+x2*y1=X at *
 generalize y1*y2-x1*x2=Y at *
 generalize 1+δ*x1*x2*y1*y2=A at *
 generalize 1-δ*x1*x2*y1*y2=B at *
 have k2:(X*X*(B*B)+Y*Y*(A*A))*(i*i*(j*j))=(A*A*(B*B)+δ*(X*X)*(Y*Y))*(i*i*(j*j)):=by rw[key]
 have hi2:A*A*(i*i)=1:=by grobner
 have hj2:B*B*(j*j)=1:=by grobner
 clear key h1 h2 hi hj
 grobner
def Pt.add (hδ:Qha δ) (P Q:Pt δ):Pt δ:=
 ⟨(P.x*Q.y+Q.x*P.y)*finv (1+tt P Q),(P.y*Q.y-P.x*Q.x)*finv (1-tt P Q),Qvh P.on Q.on (Qdw (Quv hδ P Q)) (Qdw (QtT hδ P Q))⟩
variable (hδ:Qha δ)
theorem Qxz (P Q:Pt δ):(P.add hδ Q).x*(1+tt P Q)=P.x*Q.y+Q.x*P.y:=by
 have:=Qdw (Quv hδ P Q)
 show (P.x*Q.y+Q.x*P.y)*finv (1+tt P Q)*(1+tt P Q)=_
 grobner
theorem QxS (P Q:Pt δ):(P.add hδ Q).y*(1-tt P Q)=P.y*Q.y-P.x*Q.x:=by
 have:=Qdw (QtT hδ P Q)
 show (P.y*Q.y-P.x*Q.x)*finv (1-tt P Q)*(1-tt P Q)=_
 grobner
def Pt.zero:Pt δ:=⟨0,1,by grobner⟩
def Pt.neg (P:Pt δ):Pt δ:=⟨-P.x,P.y,by have:=P.on;grobner⟩
theorem Qoq (P:Pt δ):P.add hδ Pt.zero=P:=by
 have ht:tt P (Pt.zero)=0:=by unfold tt Pt.zero;grobner
 apply Pt.ext
 ·apply QsJ (Quv hδ P Pt.zero)
  rw[Qxz,ht]
  simp only[Pt.zero]
  grobner
 ·apply QsJ (QtT hδ P Pt.zero)
  rw[QxS,ht]
  simp only[Pt.zero]
  grobner
end
section
variable {δ:Fp} (hδ:Qha δ)
def Pt.mul (P:Pt δ):Nat→Pt δ
 | 0=>Pt.zero
 | n+1=>(Pt.mul P n).add hδ P
end
section
variable {δ:Fp} (hδ:Qha δ)
include hδ in
include hδ in
theorem c8:(8:Fp)≠0:=by decide
theorem c16:(16:Fp)≠0:=by decide
end
section
variable {δ:Fp} (hδ:Qha δ)
def kval (K:List UInt8):Nat→Nat
 | 0=>0
 | j+1=>2*kval K j+(kbit K (254-j)).toNat
def Pt.u (s:Fp) (Q:Pt δ):Fp:=if 1-Q.y=0 then 0 else s*(1+Q.y)*finv (1-Q.y)
include hδ in
end
theorem Qlu (a:Fp) (n:Nat) (h:n<2^256):fpow a n=toF (pwm P25 256 a.val n):=by rw[Qll P25 256 a.val n h,QtF];rfl
theorem h2:fpow 2 Hp= -1:=by rw[Qlu _ _ (by decide)];decide +kernel
theorem h4:fpow 4 Hp=1:=by rw[Qlu _ _ (by decide)];decide +kernel
theorem hm1:(1:Fp)≠ -1:=by decide
end Ed
namespace Ed
def Qst:List Nat:=[2,3,5,7,11,13,17,19,23,31,41,43,47,61,67,73,79,101,113,181,227,269,307,383,467,487,727]
theorem Qd6:∀q∈Qst,Prm q:=fun q hq=>QjF (Qy6.1 (show Qst.all small=true by decide +kernel) q hq)
theorem QlJ:Prm 1723∧∀a,a%1723≠0→a^(1723-1)%1723=1:=
 QaU 1723 3 [2,3,7,41] (by decide +kernel) (by
  intro q hq
  simp only[QyI,QyN,or_false]at hq
  rcases hq with rfl|rfl|rfl|rfl
  ·exact Qd6 _ (by decide)
  ·exact Qd6 _ (by decide)
  ·exact Qd6 _ (by decide)
  ·exact Qd6 _ (by decide))
end Ed
namespace Ed
def Kl:List UInt8:=[237,211,245,92,26,99,18,88,214,156,247,162,222,249,222,20,0,0,0,0,0,0,0,0,0,0,0,0,0,0,0,16]
section
variable {δ:Fp} (hδ:Qha δ)
include hδ in
theorem zero_mul (n:Nat):(Pt.zero:Pt δ).mul hδ n=Pt.zero:=by
 induction n with
 | zero=>rfl
 | succ n ih=>show ((Pt.zero:Pt δ).mul hδ n).add hδ Pt.zero=Pt.zero;rw[ih,Qoq]
structure Ell (L:Nat):Prop where
 kl:kval Kl 255=L
 inv:∀n,n%L≠0→∃m,n*m%L=1
 dbl:∀n,n%L≠0→(n+n)%L≠0
 one:1%L≠0
 clamp:∀bs:List UInt8,bs.length=32→kval (Qcg bs) 255%L≠0
end
end Ed
end Go.Proofs.YtcbdgnlcknllnaaGreat
namespace Go.Proofs.YtcbdgnlcknllnaaGreat
open Go.RowKit
end Go.Proofs.YtcbdgnlcknllnaaGreat
namespace Go.Proofs.YtcbdgnlcknllnaaGreat
open Go.RowKit
open Go.BigFrame
section
variable {ops:Array Oper} {rest:List Oper} {o:Oper} {a:Act} {w:World} {Q:Exit→Act→World→Prop}
end
end Go.Proofs.YtcbdgnlcknllnaaGreat
namespace Go.Proofs.YtcbdgnlcknllnaaGreat
open Go.RowKit
theorem QnR {w wk:World} {LS:List (Nat×TypeId×List Value)} {base n c:Nat} {A:Option Addr} {vs:List Value} (B:Bag w wk LS) (hT:∀p∈LS,p.2.1≠25) (hown:wk.ownsRow base 25 1 (.slice A n c) n vs)
 (hv:∀v∈vs,v= .slice none 0 0∨∃p∈LS,∃m c,v= .slice (some ⟨p.1,0,none⟩) m c∧m≤c∧c≤p.2.2.length∧m≤1099511627776) (hd:(vs.filterMap Value.ownBlock).Nodup) (hn:n≤1048576):
 Calls Tryz.prog 24 #[.slice A n c] wk fun e w'=>e= .returned (.bool true)∧Later w w'∧∀b,b<wk.heap.size→(∀ v∈vs,v.ownBlock≠some b)→w'.heap[b]?=wk.heap[b]?:=by
 refine (Qrv A n c vs wk (Qjk hown) (fun b o e v h hb=>?_) hd (fun v h=>?_) hn).mono fun e w' ⟨h1,h2,h3,h4,h5,h6⟩=>⟨h1,.of_below ⟨h4.trans B.lat.below.os,h5.trans B.lat.below.tape,h6.trans B.lat.below.output,QyX B.lat.size h2,fun k hk=>(h3 k (QyL hk B.lat.size) fun v hv' e=>?_).trans (B.lat.below.block k hk)⟩,h3⟩
 rotate_left 2
 ·rcases hv v hv' with rfl|⟨p,hp,m,c',rfl,_⟩
  ·cases e
  ·have e':some p.1=some k:=e
   injection e' with e'
   have:=B.low p hp
   omega
 ·rcases hv v h with rfl|⟨p,hp,m,c',rfl,_⟩
  ·cases hb
  ·cases hb
   exact Qu8 hown (B.blk p hp) (hT p hp) (by rw[e];rfl)
 ·rcases hv v h with rfl|⟨p,hp,m,c',rfl,h1,h2,h3⟩
  ·exact .inl rfl
  ·exact .blk (B.blk p hp) h1 h2 h3
def QbD (bs:List UInt8):List Value:=((Qy0 40).map fun (j:Nat)=>spM ((bs.length:Int)+(j:Int))).map W8
theorem Qht (bs:List UInt8):(Qcp bs).map W8=bs.map W8++QbD bs:=by rw[Qcp,QyZ];rfl
theorem QeH (bs:List UInt8):(QbD bs).length=40:=by simp[QbD]
theorem QpO {w:World} {g n:Nat} {t:TypeId} {bs:List UInt8} (h:Blk w g t (bs.map W8++QbD bs)) (hn:bs.length=n):RdB w (some ⟨g,0,none⟩) (n+40) (Qcp bs):=by
 have:Rd w (some ⟨g,0,none⟩) (n+40) ((Qcp bs).map W8):=by
  rw[Qht]
  exact h.rd (by rw[Qyz,Qyo,QeH,hn])
 exact this
abbrev Ent:=Option (Nat×Nat×Nat×List Value)
def slE:Ent→Value
 | none=>.slice none 0 0
 | some (b,n,c,_)=>.slice (some ⟨b,0,none⟩) n c
def blE:Ent→Option (Nat×TypeId×List Value)
 | none=>none
 | some (b,_,_,l)=>some (b,5,l)
def okE:Ent→Prop
 | none=>True
 | some (_,n,c,l)=>n≤c∧c≤l.length∧n≤1099511627776
theorem QnZ (e:Ent):(slE e).ownBlock=(blE e).map (·.1):=by
 rcases e with _|⟨b,n,c,l⟩<;>rfl
theorem QeV (es:List Ent):(es.map slE).filterMap Value.ownBlock=(es.filterMap blE).map (·.1):=by
 rw[List.filterMap_map,List.map_filterMap]
 congr 1
 funext e
 exact QnZ e
theorem Qli {es:List Ent}:∀p∈es.filterMap blE,p.2.1=5:=by
 intro p hp
 obtain⟨e,_,he⟩:=QzR.1 hp
 rcases e with _|⟨b,n,c,l⟩<;>cases he
 rfl
theorem Qhy {w wk:World} {ls:List (Nat×TypeId×List Value)} (B:Bag w wk ls) (es:List Ent) (hp:(es.filterMap blE).Perm ls) (hk:∀e∈es,okE e) {base n c:Nat} {A:Option Addr} (hown:wk.ownsRow base 25 1 (.slice A n c) n (es.map slE)) (hn:n≤1048576):
 Calls Tryz.prog 24 #[.slice A n c] wk fun e w'=>e= .returned (.bool true)∧Later w w'∧∀b,b<wk.heap.size→(∀ v∈es.map slE,v.ownBlock≠some b)→w'.heap[b]?=wk.heap[b]?:=by
 refine QnR B (fun p hp' e=>?_) hown (fun v hv=>?_) ?_ hn
 ·have h1:=Qli p (hp.mem_iff.2 hp')
  rw[h1]at e
  exact absurd e (by decide)
 ·obtain⟨e,he,rfl⟩:=Qy1.1 hv
  rcases e with _|⟨b,n,c,l⟩
  ·exact .inl rfl
  ·obtain⟨h1,h2,h3⟩:=hk _ he
   exact .inr ⟨(b,5,l),hp.mem_iff.1 (QzR.2 ⟨_,he,rfl⟩),n,c,rfl,h1,h2,h3⟩
 ·rw[QeV]
  exact (hp.map _).nodup_iff.2 B.nd
end Go.Proofs.YtcbdgnlcknllnaaGreat
