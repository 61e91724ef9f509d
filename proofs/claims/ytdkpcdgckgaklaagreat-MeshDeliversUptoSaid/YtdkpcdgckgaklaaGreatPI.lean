/-
  Lemmas for the last text of this claim (part 9 of 20).
-/
import Derived.ArgAppend
import Derived.BigQuiet
import Derived.BigRegion
import Derived.ChangeOld
import Derived.Deep.RegionWith
import Derived.DeepKeys4
import Derived.JoinedCond
import Derived.LaidMore
import Derived.Laws.CopyOwn
import Derived.Laws.Externs
import Derived.Laws.IdiomStrings
import Derived.Laws.Tables
import Derived.Lib.AppendStr
import Derived.Lib.AppendZerosOnto
import Derived.Lib.Mul64
import Derived.Lib.SlBytesConst
import Derived.LoopN
import Derived.Maps.OwnSet
import Derived.OpenShut
import Derived.OrdersHeld
import Derived.ProofKit
import Derived.Shelf.Spec.BitsCarry
import Derived.ShutString
import Derived.Test.YtdkpcdgckgaklaaGreatProg
import Derived.Test.YtdkpcdgckgaklaaGreatRows
import Derived.WalkKit
import Derived.WalkLawsBesides
import Derived.WalkSpells
import Derived.Test.YtdkpcdgckgaklaaGreatPB
import Derived.Test.YtdkpcdgckgaklaaGreatPD
import Derived.Test.YtdkpcdgckgaklaaGreatPH
open List renaming replicate → QCn, getElem?_cons_succ → QCo, getElem?_cons_zero → QCp, cons_append → QCr, nil_append → QCs, length_map → QCt, getD_eq_getElem?_getD → QCu, getElem?_eq_getElem → QCv, setIfInBounds_toArray → QCw, set_cons_zero → QCy, set_cons_succ → QCz, map_toArray → QCA, length_append → QCB, map_nil → QCC, getElem?_append_left → QCD, take_of_length_le → QCE, getElem?_append_right → QCF, getElem?_map → QCH, length_replicate → QCJ, getElem?_eq_some_iff → QCK, append_assoc → QCL, length_take → QCP, mem_cons → QCQ, map_cons → QCR, length_drop → QCS, take_succ_eq_append_getElem → QCY, length_set → QCZ, eq_nil_of_length_eq_zero → QC0, append_nil → QC1, take_append_drop → QC3, map_append → QC6, mem_map → QC7, map_replicate → QC8, drop_of_length_le → QDf, drop_left' → QDg, flatMap_cons → QDi, length_cons → QDj, take_append_of_le_length → QDk, getElem?_eq_none → QDr, getElem?_take → QDt, drop_append_of_le_length → QDu, map_take → QDB, getElem?_drop → QDU, drop_drop → QD8, take_left' → QD9, nodup_cons → QEf, drop_append → QEh, take_zero → QEm, map_set → QEy, map_drop → QEF
open Nat renaming le_refl → QCx, zero_add → QCI, lt_of_lt_of_le → QCM, mod_eq_of_lt → QCO, mod_lt → QCU, le_trans → QC4, lt_or_ge → QDq, lt_trans → QDw, div_add_mod → QDx, mul_comm → QDK, lt_of_le_of_lt → QDN, add_zero → QDP, le_mul_of_pos_right → QD3, eq_zero_or_pos → QD6, zero_le → QEk, add_mul → QEA
open Option renaming toList_some → QCq, bind_some → QDF, map_some → QD7
open UInt8 renaming toNat_inj → QDl
set_option linter.all false
namespace Go.Proofs.YtdkpcdgckgaklaaGreat
open Go.RowKit
structure Bag (w wk:World) (ls:List (Nat×TypeId×List Value)):Prop where
 lat:Later w wk
 blk:∀p∈ls,Blk wk p.1 p.2.1 p.2.2
 low:∀p∈ls,w.heap.size≤p.1
 nd:(ls.map (·.1)).Nodup
section
variable {w wk v v1:World} {ls:List (Nat×TypeId×List Value)} {k:Nat} {t:TypeId} {l l':List Value}
theorem Bag.nth (h:Bag w wk ls) (i:Nat) (hi:ls[i]?=some (k,t,l)):Blk wk k t l:=h.blk (k,t,l) (List.mem_of_getElem? hi)
theorem Bag.at_low (h:Bag w wk ls) (i:Nat) (hi:ls[i]?=some (k,t,l)):w.heap.size≤k:=h.low (k,t,l) (List.mem_of_getElem? hi)
theorem Bag.later (h:Bag w wk ls) (j:Later wk v):Bag w v ls:=⟨h.lat.trans j,fun p hp=>(h.blk p hp).later j,h.low,h.nd⟩
theorem Bag.drew (h:Bag w wk ls):Bag w wk.drew ls:=h.later (Qab _)
theorem Bag.none (w:World):Bag w w []:=⟨Later.refl w,by simp,by simp,by simp⟩
theorem Bag.add (h:Bag w wk ls) (j:Later wk v) (hk:∀p∈ls,k≠p.1) (hl:w.heap.size≤k) (hb:Blk v k t l):Bag w v ((k,t,l) :: ls):=by
 have h1:=h.later j
 refine⟨h1.lat,?_,?_,?_⟩
 ·intro p hp
  rcases QCQ.1 hp with rfl|hp
  ·exact hb
  ·exact h1.blk p hp
 ·intro p hp
  rcases QCQ.1 hp with rfl|hp
  ·exact hl
  ·exact h1.low p hp
 ·rw[QCR,QEf]
  refine⟨fun hm=>?_,h1.nd⟩
  obtain⟨p,hp,e⟩:=QC7.1 hm
  exact hk p hp e.symm
theorem Bag.write (h:Bag w wk ls) (i:Nat) (hi:ls[i]?=some (k,t,l)) (o:Only k wk v) (hb:Blk v k t l'):Bag w v (ls.set i (k,t,l')):=by
 refine⟨h.lat.only o (h.at_low i hi),?_,?_,?_⟩
 ·intro p hp
  obtain⟨j,hj⟩:=List.getElem?_of_mem hp
  rw[List.getElem?_set]at hj
  split at hj
  ·split at hj
   ·cases hj
    exact hb
   ·cases hj
  ·rename_i hne
   refine (h.blk p (List.mem_of_getElem? hj)).only o ?_
   intro e
   have h1:(ls.map (·.1))[i]?=some k:=by rw[QCH,hi];rfl
   have h2:(ls.map (·.1))[j]?=some k:=by rw[QCH,hj,←e];rfl
   have hlt:i<(ls.map (·.1)).length:=(QCK.1 h1).1
   exact hne ((List.getElem?_inj hlt h.nd).1 (h1.trans h2.symm))
 ·intro p hp
  rcases List.mem_or_eq_of_mem_set hp with hp|rfl
  ·exact h.low p hp
  ·exact h.at_low i hi
 ·have:(ls.set i (k,t,l')).map (·.1)=ls.map (·.1):=by
   rw[QEy]
   apply List.ext_getElem?
   intro j
   rw[List.getElem?_set]
   split
   ·rename_i e
    subst e
    split
    ·rw[QCH,hi];rfl
    ·rename_i hlt
     rw[QDr (by omega)]
   ·rfl
  rw[this]
  exact h.nd
theorem Bag.push (h:Bag w wk ls) (j:Later wk v) (hk:wk.heap.size≤k) (o:Only k v v1) (hb:Blk v1 k t l):Bag w v1 ((k,t,l) :: ls):=by
 have h0:∀p∈ls,k≠p.1:=fun p hp e=>by have:=(h.blk p hp).lt;omega
 have hw:w.heap.size≤k:=by have:=h.lat.size;omega
 have h1:=h.later j
 refine⟨h1.lat.only o hw,?_,?_,?_⟩
 ·intro p hp
  rcases QCQ.1 hp with rfl|hp
  ·exact hb
  ·exact (h1.blk p hp).only o (fun e=>h0 p hp e.symm)
 ·intro p hp
  rcases QCQ.1 hp with rfl|hp
  ·exact hw
  ·exact h1.low p hp
 ·rw[QCR,QEf]
  refine⟨fun hm=>?_,h1.nd⟩
  obtain⟨p,hp,e⟩:=QC7.1 hm
  exact h0 p hp e.symm
theorem Bag.ne {p q:Nat×TypeId×List Value} (h:Bag w wk ls) (i j:Nat) (hi:ls[i]?=some p) (hj:ls[j]?=some q) (hij:i≠j):p.1≠q.1:=by
 intro e
 have h1:(ls.map (·.1))[i]?=some p.1:=by rw[QCH,hi];rfl
 have h2:(ls.map (·.1))[j]?=some p.1:=by rw[QCH,hj,e];rfl
 have hlt:i<(ls.map (·.1)).length:=(QCK.1 h1).1
 exact hij ((List.getElem?_inj hlt h.nd).1 (h1.trans h2.symm))
theorem Bag.drop (h:Bag w wk ls) (n:Nat):Bag w wk (ls.drop n):=
 ⟨h.lat,fun p hp=>h.blk p (List.mem_of_mem_drop hp),fun p hp=>h.low p (List.mem_of_mem_drop hp),by rw[QEF];exact (List.drop_sublist n _).nodup h.nd⟩
end
theorem Qa8 (w:World) (t:TypeId) (l:List Value):Bag w (w.alloc (.cells l.toArray t)) [(w.heap.size,t,l)]:=
 ⟨Qaa _ _,by intro p hp;simp at hp;subst hp;exact Blk.new w t l,by simp,by simp⟩
theorem Qfv:∀(vs:List Value) (k off:Nat) (cells:List Value),off+vs.length≤cells.length→
 (vs.zipIdx k).foldl (fun (cs:Array Value) (x:Value×Nat)=>cs.setIfInBounds (off-k+x.2) x.1) cells.toArray=(Qau cells off vs).toArray∨off<k
 | [],k,off,cells,_=>.inl (by simp[Qau])
 | v :: vs,k,off,cells,h=>by
   rcases QDq off k with hk|hk
   ·exact .inr hk
   left
   simp only[QDj]at h
   have ih:=Qfv vs (k+1) (off+1) (cells.set off v) (by simp;omega)
   rcases ih with ih|ih
   ·rw[List.zipIdx_cons,List.foldl_cons,show off-k+k=off by omega]
    simp only[QCw]
    rw[show off+1-(k+1)=off-k by omega]at ih
    rw[ih]
    congr 1
    rw[Qau,Qau,QCY (by simp;omega),List.drop_set_of_lt (by omega)]
    simp only[List.take_set_of_le (QCx off),List.getElem_set_self,QCL,QCr,QCs,QDj,show off+1+vs.length=off+(vs.length+1) by omega]
   ·omega
theorem QpI (vs cells:List Value) (off:Nat) (h:off+vs.length≤cells.length):
 vs.toArray.zipIdx.foldl (fun (cs:Array Value) (x:Value×Nat)=>cs.setIfInBounds (off+x.2) x.1) cells.toArray=(Qau cells off vs).toArray:=by
 rcases Qfv vs 0 off cells h with h|h
 ·rw[←Array.foldl_toList,Array.toList_zipIdx]
  simpa using h
 ·omega
theorem QaO {P:Program} {t:TypeId} {zs:List Value} {fs:Array Field} {pl:List (Nat×Nat)} (hu:P.underlying t=some (.struct fs)) (hz:(P.info? t).bind (·.zero)=some (.agg zs.toArray))
 (hp:(fs.toList.mapM fun f=>(P.info? f.type).map fun i=>(f.offset,i.size))=some pl) (parts:List (Nat×Value)):P.built t parts=Instr.fill (pl.toArray[·]?) zs.toArray parts:=by
 cases hq:P.info? t with
 | none=>simp[hq]at hz
 | some it=>
   have hz':it.zero=some (.agg zs.toArray):=by simpa [hq] using hz
   have hc2:(Value.agg zs.toArray).cells=zs.toArray:=rfl
   unfold Program.built
   rw[hq,hu]
   simp only[hz',hp,hc2]
theorem QaS {place:Nat→Option (Nat×Nat)} {i off:Nat} {cells vs:List Value} {v:Value} {rest:List (Nat×Value)} (hv:v.cells=vs.toArray) (hpi:place i=some (off,vs.length)) (hfit:off+vs.length≤cells.length):
 Instr.fill place cells.toArray ((i,v) :: rest)=Instr.fill place (Qau cells off vs).toArray rest:=by
 simp only[Instr.fill,hpi,hv,List.size_toArray]
 rw[if_neg (by simp;omega),QpI _ _ _ hfit]
theorem QbM {place:Nat→Option (Nat×Nat)} {cells:Array Value}:Instr.fill place cells []=some cells:=rfl
section
variable {P:Program} {ops:Array Oper} {rest:List Oper} {o:Oper} {a:Act} {w:World} {Q:Exit→Act→World→Prop}
theorem Qal (hw:Region.wanted o (yielded ops a.tmps)=true) (ty:TypeId) (x:Operand) (ho:o.op= .load ty x) (g off:Nat) (vs:List Value) (hc:∀j v,vs[j]?=some v→w.cell? ⟨g,off+j,none⟩=some v)
 (hx:a.eval x= .pointer (some ⟨g,off,none⟩)) (d:TypeDesc) (hu:P.underlying ty=some d) (hd:QbH d=true) (hi:(P.info? ty).map (·.size)=some vs.length)
 (h:wpList P ops Q rest (a.put o.dst (.agg vs.toArray)) w):wpList P ops Q (o :: rest) a w:=by
 refine BigFrame.wpList_want hw fun K hK=>?_
 unfold Oper.wp
 simp only[execOp,ho,hx,Instr.loadAt,Instr.sureAddr,Sem.run_bind,Sem.run_pure,Result.andThen_ok,Qbi w g off ty vs d hc hu hd hi]
 exact hK _ _ h
theorem Qah (hw:Region.wanted o (yielded ops a.tmps)=true) (t:TypeId) (parts:Array (Nat×Operand)) (ho:o.op= .build t parts) (vs:List Value) (hb:P.built t (parts.map fun (i,x)=>(i,a.eval x)).toList=some vs.toArray)
 (h:wpList P ops Q rest (a.put o.dst (.agg vs.toArray)) w):wpList P ops Q (o :: rest) a w:=
 BigFrame.wpList_want hw fun K hK=>wp_build t parts ho (by rw[hb];rfl) (by rw[hb];exact hK _ _ h)
end
theorem QcZ:(Tryz.prog.info? 79).map (·.size)=some 32:=by kernel_rfl
theorem Qd0 {P:Program} {t:TypeId} {n k:Nat} {d:TypeDesc} (hu:P.underlying t=some d) (hd:QbH d=true) (hs:(P.info? t).map (·.size)=some n) (zs r:List Value) (hz:(zs.drop k).take n=r) (w:World):
 (part t zs.toArray k).run P w= .ok (.agg r.toArray) w:=by
 have hs:(sizeOf t).run P w= .ok n w:=by
  cases hq:P.info? t with
  | none=>simp[hq]at hs
  | some inf=>
    have hsz:inf.size=n:=by simpa [hq] using hs
    simp[sizeOf,typeInfo,hq,hsz]
 have ha:(isAgg t).run P w= .ok true w:=by
  unfold isAgg
  simp only[Sem.run_bind,run_underlying hu]
  cases d<;>simp_all [QbH]
 unfold part
 simp only[Sem.run_bind,ha,Result.andThen_ok,if_true,hs,Sem.run_pure]
 rw[←hz]
 simp
theorem Qdi {P:Program} {d n k:Nat} {t e:TypeId} {f:Field} {fs:List Field} (hf:f.type=t) (hu:P.underlying t=some (.array n e)) (hs:(P.info? t).map (·.size)=some n) (hs1:(P.info? e).map (·.size)=some 1) (he:P.underlying e=some (.int .u8))
 (hn:f.name≠ "_") {xs ys:List Value} {p q:List UInt8} (ho:f.offset=k) (hp:(xs.drop k).take n=p.map W8) (hq:(ys.drop k).take n=q.map W8) (hpl:p.length=n) (hql:q.length=n) (w:World):
 (Op.eqFields (d+2) xs.toArray ys.toArray (f :: fs)).run P w=if p==q then (Op.eqFields (d+2) xs.toArray ys.toArray fs).run P w else .ok false w:=by
 rw[Op.eqFields,if_pos hn]
 simp only[Sem.run_bind,hf,ho,Qd0 hu rfl hs xs _ hp,Qd0 hu rfl hs ys _ hq,Result.andThen_ok]
 rw[Qbe w 0 W8 d t e n hu hs1 he rfl (QjA _ _ he) p q hpl hql]
 simp only[Result.andThen_ok]
 cases p==q<;>simp
theorem Qcd {d:Nat} {f:Field} {fs:List Field} (hf:f.type=79) (hn:f.name≠ "_") {xs ys:List Value} {p q:List UInt8} {k:Nat} (ho:f.offset=k) (hp:(xs.drop k).take 32=p.map W8) (hq:(ys.drop k).take 32=q.map W8) (hpl:p.length=32) (hql:q.length=32) (w:World):
 (Op.eqFields (d+2) xs.toArray ys.toArray (f :: fs)).run Tryz.prog w=if p==q then (Op.eqFields (d+2) xs.toArray ys.toArray fs).run Tryz.prog w else .ok false w:=
 Qdi hf Tryz.underlying79 QcZ QbR Tryz.underlying5 hn ho hp hq hpl hql w
theorem QgR {P:Program} {t:TypeId} {fs:Array Field} (hu:P.underlying t=some (.struct fs)) (hp:P.stoodInHeld t=false) (xs ys:Array Value) (w:World):
 (binOp .eql t (.agg xs) (.agg ys)).run P w=((Op.eqFields 9999 xs ys fs.toList).run P w).andThen fun b w'=>.ok (.bool b) w':=by
 have e:P.fieldsOf t=fs:=by unfold Program.fieldsOf;rw[hu]
 rw[run_eql_struct,run_equalIn_struct w 9999 t xs ys (by rw[e];exact hu) hp,e]
theorem QiT {P:Program} {t:TypeId} {fs:Array Field} (hu:P.underlying t=some (.struct fs)) (hp:P.stoodInHeld t=false) (xs ys:Array Value) (w:World):
 (binOp .neq t (.agg xs) (.agg ys)).run P w=((Op.eqFields 9999 xs ys fs.toList).run P w).andThen fun b w'=>.ok (.bool (!b)) w':=by
 have e:P.fieldsOf t=fs:=by unfold Program.fieldsOf;rw[hu]
 rw[run_neq_struct,run_equalIn_struct w 9999 t xs ys (by rw[e];exact hu) hp,e]
theorem Qdf {d:Nat} {xs ys:Array Value} (w:World):(Op.eqFields d xs ys []).run Tryz.prog w= .ok true w:=by
 rw[Op.eqFields]
 simp
theorem Blk.cast {w:World} {g:Nat} {t:TypeId} {l l':List Value} (h:Blk w g t l) (e:l=l'):Blk w g t l':=e ▸ h
def subB (bs:List UInt8) (off n:Nat):List UInt8:=(bs.drop off).take n
def putB (bs:List UInt8) (off:Nat) (vs:List UInt8):List UInt8:=bs.take off++vs++bs.drop (off+vs.length)
theorem Qav {bs:List UInt8} {off n:Nat} (h:off+n≤bs.length):(subB bs off n).length=n:=by
 rw[subB,QCP,QCS]
 omega
theorem Qca {bs vs:List UInt8} {off:Nat} (h:off+vs.length≤bs.length):(putB bs off vs).length=bs.length:=by
 rw[putB,QCB,QCB,QCP,QCS]
 omega
theorem QcS (bs vs:List UInt8) (off:Nat):Qau (bs.map W8) off (vs.map W8)=(putB bs off vs).map W8:=by
 rw[Qau,putB,QCt,QC6,QC6,QDB,QEF]
theorem QgH (p q r:List UInt8) (off n:Nat) (hp:p.length=off) (hq:q.length=n):subB (p++(q++r)) off n=q:=by
 rw[subB,QDg hp,QD9 hq]
theorem Qqs (q r:List UInt8) (n:Nat) (hq:q.length=n):subB (q++r) 0 n=q:=QgH [] q r 0 n rfl hq
theorem Qq5 (p q:List UInt8) (off n:Nat) (hp:p.length=off) (hq:q.length=n):subB (p++q) off n=q:=by
 have:=QgH p q [] off n hp hq
 rwa [QC1]at this
theorem QkM {bs:List UInt8} {off n j:Nat} {v:UInt8} (h:(subB bs off n)[j]?=some v):bs[off+j]?=some v:=by
 rw[subB,QDt]at h
 split at h
 ·rwa [QDU]at h
 ·cases h
theorem Qcw (p q r v:List UInt8) (off:Nat) (hp:p.length=off) (hq:q.length=v.length):putB (p++(q++r)) off v=p++(v++r):=by
 rw[putB,QD9 hp,←QD8,QDg hp,QDg hq,QCL]
theorem Qc9 (q r v:List UInt8) (hq:q.length=v.length):putB (q++r) 0 v=v++r:=Qcw [] q r v 0 rfl hq
theorem QdQ (p q v:List UInt8) (off:Nat) (hp:p.length=off) (hq:q.length=v.length):putB (p++q) off v=p++v:=by
 have:=Qcw p q [] v off hp hq
 rwa [QC1,QC1]at this
theorem Qod (bs vs:List UInt8) (h:vs.length=bs.length):putB bs 0 vs=vs:=by
 rw[putB,QEm,QCs,QCI,QDf (by omega),QC1]
theorem QiR {w:World} {g:Nat} {t:TypeId} {bs r:List UInt8} {off n:Nat} (hb:Blk w g t (bs.map W8)) (hr:subB bs off n=r):∀j v,(r.map W8)[j]?=some v→w.cell? ⟨g,off+j,none⟩=some v:=by
 intro j v hv
 rw[QCH,Option.map_eq_some_iff]at hv
 obtain⟨x,hx,rfl⟩:=hv
 rw[←hr]at hx
 exact hb.cellD _ (by rw[QCH,QkM hx];rfl)
theorem QcT {w:World} {g:Nat} {t:TypeId} {bs r:List UInt8} {off n:Nat} (hb:Blk w g t (bs.map W8)) (hr:subB bs off n=r) (hn:r.length=n):RdB w (some ⟨g,off,none⟩) n r:=
 ⟨by rw[QCt,hn],fun _=>⟨g,off,rfl,hb.lt,fun j u hu=>QiR hb hr j u hu⟩⟩
section
variable {P:Program} {ops:Array Oper} {rest:List Oper} {o:Oper} {a:Act} {w:World} {Q:Exit→Act→World→Prop}
theorem QsB (off n:Nat) (hw:Region.wanted o (yielded ops a.tmps)=true) {ty:TypeId} (x:Operand) (ho:o.op= .load ty x) {g:Nat} {t:TypeId} {bs r:List UInt8} (hb:Blk w g t (bs.map W8)) (hx:a.eval x= .pointer (some ⟨g,off,none⟩)) {d:TypeDesc} (hu:P.underlying ty=some d) (hd:QbH d=true)
 (hi:(P.info? ty).map (·.size)=some n) (hr:subB bs off n=r) (hn:r.length=n) (h:wpList P ops Q rest (a.put o.dst (.agg (r.map W8).toArray)) w):wpList P ops Q (o :: rest) a w:=
 Qal hw ty x ho g off (r.map W8) (QiR hb hr) hx d hu hd (by rw[QCt,hn];exact hi) h
theorem Qhh (off n:Nat) {K:Act→Prop} {ty:TypeId} (x:Operand) (ho:o.op= .load ty x) {w0:World} {g:Nat} {t:TypeId} {bs r:List UInt8} (hb:Blk w0 g t (bs.map W8)) (hx:a.eval x= .pointer (some ⟨g,off,none⟩)) {d:TypeDesc} (hu:P.underlying ty=some d) (hd:QbH d=true)
 (hi:(P.info? ty).map (·.size)=some n) (hr:subB bs off n=r) (hn:r.length=n) (h:K (a.put o.dst (.agg (r.map W8).toArray))):o.quiet P a (fun w'=>∃x,w'=grow w0 x) K:=
 QaN ty x ho g off (r.map W8) (fun w' hw j v hv=>by obtain⟨y,rfl⟩:=hw;exact QiR (hb.later ⟨y,rfl⟩) hr j v hv) hx d hu hd (by rw[QCt,hn];exact hi) h
theorem Qg2 (off n:Nat) (hgd:o.guard=none) (hd:o.dst=none) {ty:TypeId} (x y:Operand) (ho:o.op= .store ty x y) {g:Nat} {t:TypeId} {bs vs:List UInt8} (hg:Blk w g t (bs.map W8)) (hx:a.eval x= .pointer (some ⟨g,off,none⟩)) (hy:a.eval y= .agg (vs.map W8).toArray)
 (hi:(P.info? ty).map (·.size)=some n) (hn:vs.length=n) (hfit:off+n≤bs.length) (h:∀w',Blk w' g t ((putB bs off vs).map W8)→Only g w w'→wpList P ops Q rest a w'):wpList P ops Q (o :: rest) a w:=
 Qaj hgd hd ty x y ho g off t _ (vs.map W8) hg hx hy (by rw[QCt,hn];exact hi) (by rw[QCt,QCt];omega) (QaE _) (fun w' hb=>h w' (by rwa [QcS]at hb))
theorem Qdp (n:Nat) (hgd:o.guard=none) (hd:o.dst=none) {ty:TypeId} (x y:Operand) (ho:o.op= .store ty x y) {g:Nat} {t:TypeId} {l:List Value} {vs:List UInt8} (hg:Blk w g t l) (hx:a.eval x= .pointer (some ⟨g,0,none⟩)) (hy:a.eval y= .agg (vs.map W8).toArray)
 (hi:(P.info? ty).map (·.size)=some n) (hn:vs.length=n) (hl:l.length=n) (h:∀w',Blk w' g t (vs.map W8)→Only g w w'→wpList P ops Q rest a w'):wpList P ops Q (o :: rest) a w:=
 Qaj hgd hd ty x y ho g 0 t l (vs.map W8) hg hx hy (by rw[QCt,hn];exact hi) (by rw[QCt];omega) (QaE _) (fun w' hb=>h w' (by rwa [Qao _ _ (by rw[QCt];omega)]at hb))
theorem Qsk (off m:Nat) (hgd:o.guard=none) (dd s:Operand) (dT sT:TypeId) (ho:o.op= .call { callee:=.builtin .copy,args:= #[dd,s],argTypes:= #[dT,sT] }) (elem:TypeId) (hu:P.underlying dT=some (.slice elem)) (hsz:(P.info? elem).map (·.size)=some 1)
 {g c:Nat} {t:TypeId} {bs:List UInt8} (hg:Blk w g t (bs.map W8)) {A:Option Addr} {c2:Nat} {vs:List UInt8} (hr:RdB w A m vs) (hd:a.eval dd= .slice (some ⟨g,off,none⟩) m c) (hs:a.eval s= .slice A m c2) (hfit:off+m≤bs.length)
 (h:∀w',Blk w' g t ((putB bs off vs).map W8)→Only g w w'→wpList P ops Q rest (a.put o.dst (.int .i64 ((m:Nat):Int))) w'):wpList P ops Q (o :: rest) a w:=
 Qax hgd dd s dT sT ho elem hu hsz g off m c t _ hg A m c2 (vs.map W8) hr (QaE _) hd hs (by rw[QCt];exact hfit) (fun w' hb ho=>by
  rw[QCE (by rw[QCt,hr.len];exact QCx _),QcS]at hb
  rw[Nat.min_self]
  exact h w' hb ho)
end
def QeS (bs:List UInt8):List (Nat×List UInt8)→List UInt8
 | []=>bs
 | (off,vs) :: r=>QeS (putB bs off vs) r
theorem QjO (place:Nat→Option (Nat×Nat)):∀(parts:List (Nat×Nat×List UInt8)) (bs:List UInt8),(∀ p∈parts,place p.1=some (p.2.1,p.2.2.length)∧p.2.1+p.2.2.length≤bs.length)→
 Instr.fill place (bs.map W8).toArray (parts.map fun p=>(p.1,.agg (p.2.2.map W8).toArray))=some ((QeS bs (parts.map fun p=>(p.2.1,p.2.2))).map W8).toArray
 | [],bs,_=>rfl
 | (i,off,vs) :: r,bs,h=>by
   have h0:=h (i,off,vs) (by simp)
   rw[QCR,QaS (vs:=vs.map W8) (off:=off) rfl (by rw[QCt];exact h0.1) (by rw[QCt,QCt];exact h0.2),QcS,QjO place r (putB bs off vs) fun p hp=>?_]
   ·rfl
   ·have:=h p (by simp[hp])
    rw[Qca h0.2]
    exact this
theorem QeM {P:Program} {t:TypeId} {n:Nat} {fs:Array Field} {pl:List (Nat×Nat)} (hu:P.underlying t=some (.struct fs)) (hz:(P.info? t).bind (·.zero)=some (.agg (QCn n (W8 0)).toArray))
 (hp:(fs.toList.mapM fun f=>(P.info? f.type).map fun i=>(f.offset,i.size))=some pl) (parts:List (Nat×Nat×List UInt8)) (hpl:∀p∈parts,pl.toArray[p.1]?=some (p.2.1,p.2.2.length)∧p.2.1+p.2.2.length≤n):
 P.built t (parts.map fun p=>(p.1,.agg (p.2.2.map W8).toArray))=some ((QeS (QCn n 0) (parts.map fun p=>(p.2.1,p.2.2))).map W8).toArray:=by
 rw[QaO hu hz hp,show QCn n (W8 0)=(QCn n (0:UInt8)).map W8 by rw[QC8],QjO _ parts _ (fun p hp=>by rw[QCJ];exact hpl p hp)]
end Go.Proofs.YtdkpcdgckgaklaaGreat
namespace Go.Proofs.YtdkpcdgckgaklaaGreat
open Go.RowKit
open Go.BigFrame
theorem Qc3 {ops:Array Oper} {o:Oper} {a:Act} (hw:Region.wanted o (yielded ops a.tmps)=true) (ho:o.op= .alloc 195):
 Makes Tryz.prog ops o (fun g=>.pointer (some ⟨g,0,none⟩)) (.cells (QCn 8 (.int .u32 0)).toArray 195) a:=
 ⟨hw,fun w=>by
   unfold execOp
   rw[ho]
   simp[go_sem]⟩
theorem Quf {o:Oper} {a:Act} {K:Act→Prop} (x:Operand) (ho:o.op= .load 195 x) {w0:World} {g:Nat} {t:TypeId} {n:Nat} (hb:Blk w0 g t (NL n)) (hx:a.eval x= .pointer (some ⟨g,0,none⟩)) (h:K (a.put o.dst (NN n))):
 o.quiet Tryz.prog a (Below w0.heap.size w0) K:=
 QaN _ x ho g 0 (NL n) (fun w' hw j v hv=>by rw[QCI];exact Blk.cellD ((hw.block g hb.lt).trans hb) j hv) hx _ Tryz.underlying195 rfl (by rw[QaB];exact QkA) h
theorem Qed {o:Oper} {a:Act} {K:Act→Prop} (x:Operand) (ho:o.op= .load 195 x) {w0:World} {bad:List Nat} {g:Nat} {t:TypeId} {n:Nat} (hb:Blk w0 g t (NL n)) (hn:∀b∈bad,g≠b) (hx:a.eval x= .pointer (some ⟨g,0,none⟩)) (h:K (a.put o.dst (NN n))):
 o.quiet Tryz.prog a (Spared w0 bad) K:=
 QaN _ x ho g 0 (NL n) (fun w' hw j v hv=>by rw[QCI];exact Blk.cellD (hw.blk hb hn) j hv) hx _ Tryz.underlying195 rfl (by rw[QaB];exact QkA) h
theorem QkD:Program.built Tryz.prog 195 []=some (NL 0).toArray:=by kernel_rfl
theorem QtP:Program.built Tryz.prog 195 [(0,Value.int .u32 1)]=some (NL 1).toArray:=by kernel_rfl
theorem Qlk:Program.built Tryz.prog 195 [(0,Value.int .u32 121665)]=some (NL 121665).toArray:=by kernel_rfl
theorem Qwx (x:UInt8) (m:Nat):(shr8 x m%2==1)=decide (x.toNat/2^m%2=1):=by
 rw[←QqZ]
 have h:∀y:UInt8,y%2=y &&& 1:=by
  intro y
  apply QDl.1
  rw[UInt8.toNat_mod,UInt8.toNat_and]
  exact (Nat.and_two_pow_sub_one_eq_mod _ 1).symm
 rw[h]
theorem addR (a b:Nat) (ha:a<T256) (hb:b<T256) (w:World):Calls Tryz.prog 85 #[NN a,NN b] w fun e w'=>e= .returned (NN (fadd a b))∧Later w w':=Qw2 a b ha hb w
theorem subR (a b:Nat) (ha:a<T256) (hb:b<T256) (w:World):Calls Tryz.prog 86 #[NN a,NN b] w fun e w'=>e= .returned (NN (fsub a b))∧Later w w':=QwO a b ha hb w
theorem mulR (a b:Nat) (ha:a<T256) (hb:b<T256) (w:World):Calls Tryz.prog 87 #[NN a,NN b] w fun e w'=>e= .returned (NN (fmul a b))∧Later w w':=Qky a b ha hb w
abbrev bagL (gz3 gx3 gz2 gx2 g8 g6 g0:Nat) (x1:Nat) (K:List UInt8) (s:Lad):List (Nat×TypeId×List Value):=
 [(gz3,195,NL s.z3),(gx3,195,NL s.x3),(gz2,195,NL s.z2),(gx2,195,NL s.x2),(g8,195,NL x1),(g6,79,K.map W8),(g0,79,QCn 32 (Value.int .u8 0))]
set_option maxRecDepth 100000 in
set_option maxHeartbeats 16000000 in
theorem Qn2 (A B:Option Addr) (n c m d:Nat) (ks us:List UInt8) (w:World) (hk:RdB w A n ks) (hu:RdB w B m us) (hn:n≤140737488355328) (hm:m≤140737488355328):
 Calls Tryz.prog 61 #[.slice A n c,.slice B m d] w fun e w'=>e= .returned (.tuple #[.agg ((QcQ ks us).map W8).toArray,.int .i64 (Qbt ks us:Nat)])∧Later w w':=by
 have hkl:=hk.len
 have hul:=hu.len
 have hb0:=Blk.new w 79 (QCn 32 (Value.int .u8 0))
 have L0:=Qaa w (.cells (QCn 32 (Value.int .u8 0)).toArray 79)
 have hcl:=QdG ks
 have cK:=hid (fun w h=>QqL A n c ks w h hn)
 have cU:=hid (fun w h=>Qvh B m d us w h hm)
 by_cases hn32:n=32
 ·subst hn32
  have eK:Qcq ks=0:=by rw[Qcq,if_pos (by omega)]
  rw[eK]at cK
  by_cases hm32:m=32
  ·subst hm32
   have eU:Qcq us=0:=by rw[Qcq,if_pos (by omega)]
   rw[eU]at cU
   have hx:=Qs2 us
   have hMB:=hid (show QcQ ks us=nb (Qld ks us) by rw[QcQ,if_pos ⟨hkl,hul⟩])
   have hME:=hid (show Qbt ks us=if Qld ks us=0 then 5 else 0 by rw[Qbt,if_pos ⟨hkl,hul⟩])
   have hQ:=hid (show Qld ks us=fmul (Lad.at (QdV us) (Qb4 ks) 255).x2 (pinv (Lad.at (QdV us) (Qb4 ks) 255).z2) from rfl)
   generalize Qb4 ks=K at *
   generalize QdV us=x1 at *
   go_enter Tryz.func61,Tryz.ntmps61
   go_wp2_with fail
   generalize hW:w.alloc _=w0
   replace L0:Later w w0:=by rw[←hW];exact Qaa _ _
   replace hb0:Blk w0 w.heap.size 79 (QCn 32 (Value.int .u8 0)):=by rw[←hW];exact Blk.new w 79 (QCn 32 (Value.int .u8 0))
   clear hW
   have B0:Bag w w0 [(w.heap.size,79,QCn 32 (Value.int .u8 0))]:=⟨L0,by simpa using hb0,by simp,by simp⟩
   clear L0 hb0
   (with_reducible refine (cK.out _ (hk.later B0.lat)).mono ?_);rintro e w1 ⟨rfl,hl1⟩
   go_wp2_with (first
    | (refine Qa5 rfl rfl _ _ rfl (Blk.new w1 _ (QCn 32 (.int .u8 0))) rfl rfl hcl rfl ?_;intro w2 hb2 ho2
       have B1:=B0.push (hl1.trans (Qaa w1 _)) hl1.size ho2 hb2)
    | fail)
   (with_reducible refine (cU.out _ (hu.later B1.lat)).mono ?_);rintro e w3 ⟨rfl,hl3⟩
   clear cK cU hl1 hb2 ho2 B0
   go_wp2_with (first
    | (refine Qaw rfl rfl _ _ rfl (Blk.new w3 _ (QCn 8 (.int .u32 0))) rfl rfl rfl ?_;intro w4 hb4 ho4
       have B2:=B1.push (hl3.trans (Qaa w3 _)) hl3.size ho4 hb4)
    | fail)
   clear hl3 hb4 ho4 B1
   generalize w1.heap.size=g6 at *
   generalize w3.heap.size=g8 at *
   obtain⟨g0,hg0⟩:∃g0,g0=w.heap.size:=⟨_,rfl⟩
   rw[←hg0]at B2 ⊢
   clear hg0
   refine QhV [0,1,2,3] [4,5,6,7] [8,9,10,11] (fun _=>(fun g=>.pointer (some ⟨g,0,none⟩),.cells (QCn 8 (Value.int .u32 0)).toArray 195)) (by as_aux_lemma=>kernel_rfl) (by as_aux_lemma=>kernel_rfl) (by intro _ _ d _ _ h;cases d<;>exact h) ?_
   refine⟨?mk,?_⟩
   case mk=>
    refine⟨fun o ho=>?_,fun o ho=>?_,fun o ho=>?_,fun o ho=>?_,trivial⟩
    all_goals
     simp only[QCo,QCp,Option.some.injEq]at ho
     subst ho
     exact Qc3 rfl rfl
   simp only[pick,QCo,QCp,QCq,QCr,QCs]
   repeat (first|go_big_quiet_skip|(go_big_quiet_want;(first|refine Quf _ rfl (B2.nth 0 rfl) rfl ?_|refine Qb0 _ _ rfl (NL 1) (by simp only[QCA,QCR,QCC];exact QtP) ?_|refine Qb0 _ _ rfl (NL 0) (by simp only[QCA,QCC];exact QkD) ?_);simp only[Act.put,QCw,QCz,QCy];go_big_quiet_on))
   refine wpQuiet_nil ?_
   simp only[QoX,Qka,QCo,QCp,QDF,Act.put,QCw,QCz,QCy]
   intro v1 gA j1 hg1 _ hb1 v2 gB j2 hg2 hn2 hb2 v3 gC j3 hg3 hn3 hb3 v4 gD j4 hg4 hn4 hb4 v5 j5
   simp only[or_false,not_or]at hn2 hn3 hn4
   have lt8:=(B2.nth 0 rfl).lt
   have lt6:=(B2.nth 1 rfl).lt
   have lt0:=(B2.nth 2 rfl).lt
   have hlow:=B2.lat.size
   have C1:Bag w v1 [(gA,195,QCn 8 (Value.int .u32 0)),(g8,195,NL x1),(g6,79,K.map W8),(g0,79,QCn 32 (Value.int .u8 0))]:=
    B2.add ((Qab _).trans j1) (by simp;omega) (by omega) hb1
   have C2:Bag w v2 [(gB,195,QCn 8 (Value.int .u32 0)),(gA,195,QCn 8 (Value.int .u32 0)),(g8,195,NL x1),(g6,79,K.map W8),(g0,79,QCn 32 (Value.int .u8 0))]:=
    C1.add j2 (by simp;omega) (by omega) hb2
   have C3:Bag w v3 [(gC,195,QCn 8 (Value.int .u32 0)),(gB,195,QCn 8 (Value.int .u32 0)),(gA,195,QCn 8 (Value.int .u32 0)),(g8,195,NL x1),(g6,79,K.map W8),(g0,79,QCn 32 (Value.int .u8 0))]:=
    C2.add j3 (by simp;omega) (by omega) hb3
   have C4:Bag w v5 [(gD,195,QCn 8 (Value.int .u32 0)),(gC,195,QCn 8 (Value.int .u32 0)),(gB,195,QCn 8 (Value.int .u32 0)),(gA,195,QCn 8 (Value.int .u32 0)),(g8,195,NL x1),(g6,79,K.map W8),(g0,79,QCn 32 (Value.int .u8 0))]:=
    (C3.add j4 (by simp;omega) (by omega) hb4).later j5
   have la:Later w4 v5:=(((((Qab _).trans j1).trans j2).trans j3).trans j4).trans j5
   clear C1 C2 C3 j1 j2 j3 j4 j5 hb1 hb2 hb3 hb4 hn2 hn3 hn4 lt8 lt6 lt0 hlow
   simp only[pick,QCo,QCp,QCq,QCr,QCs]
   refine Qaw rfl rfl _ _ rfl (C4.nth 3 rfl) rfl rfl rfl ?_
   intro y1 hb1 ho1
   have C5:=C4.write 3 rfl ho1 hb1
   replace la:=la.only ho1 hg1
   refine⟨la.below,?_⟩
   refine Qaw rfl rfl _ _ rfl (C5.nth 2 rfl) rfl rfl rfl ?_
   intro y2 hb2 ho2
   have C6:=C5.write 2 rfl ho2 hb2
   replace la:=la.only ho2 hg2
   refine⟨la.below,?_⟩
   refine Qaw rfl rfl _ _ rfl (C6.nth 1 rfl) rfl rfl rfl ?_
   intro y3 hb3 ho3
   have C7:=C6.write 1 rfl ho3 hb3
   replace la:=la.only ho3 hg3
   refine⟨la.below,?_⟩
   refine Qaw rfl rfl _ _ rfl (C7.nth 0 rfl) rfl rfl rfl ?_
   intro y4 hb4 ho4
   have C8:Bag w y4 (bagL gD gC gB gA g8 g6 g0 x1 K ⟨1,0,x1,1⟩):=C7.write 0 rfl ho4 hb4
   replace la:=la.only ho4 hg4
   refine⟨la.below,?_⟩
   clear la C4 C5 C6 C7 ho1 ho2 ho3 ho4 hb1 hb2 hb3 hb4 hg1 hg2 hg3 hg4 B2
   go_wp2_with fail
   go_loopw [13] (fun i wr=>∃k:Nat,k≤255∧i= .int .i64 (dn k)∧Bag w wr (bagL gD gC gB gA g8 g6 g0 x1 K (Lad.at x1 K (255-k)))) (fun i _=>(intOf i+1).toNat)
   case atStart=>exact⟨255,by omega,rfl,C8⟩
   case round=>
    clear C8
    obtain⟨k,hk,rfl,C0⟩:=hrel
    cases k with
    | zero=>
      simp only[Qkw]
      rw[show 255-0=255 from rfl]at C0
      have hok:=Lad.at_ok x1 K hx 255
      rw[hQ.out]at hMB hME
      clear hQ
      generalize Lad.at x1 K 255=S at *
      have hv:=hid (Qyh S.z2 hok.2.1)
      have hM:=hid (mulR S.x2 (pinv S.z2) hok.1 (Qsb S.z2))
      have hQP:fmul S.x2 (pinv S.z2)<P25:=QCU _ QbC
      generalize fmul S.x2 (pinv S.z2)=Q at *
      generalize pinv S.z2=I at *
      have hQT:Q<T256:=QDw hQP (by decide)
      have hBy:Hid (∀ w,Calls Tryz.prog 89 #[NN Q] w fun e w'=>e= .returned (.agg ((nb Q).map W8).toArray)∧Later w w'):=hid (by
       intro w
       have:=Qq8 Q hQT w
       rwa [QCO hQP,BB]at this)
      go_wp2_with fail
      refine QaG [0,1] [([],1,2),([],1,3),([],2,4)] [] [5] [4] (fun _=>(fun g=>.pointer (some ⟨g,0,none⟩),.cells (QCn 8 (Value.int .u32 0)).toArray 195)) (by as_aux_lemma=>kernel_rfl) (by as_aux_lemma=>kernel_rfl) (by intro _ _ d _ _ h;cases d<;>exact h) (by intro _ _ d _ _ h;cases d<;>exact h) ?_
      simp only[pick,QCo,QCp,QCq,QCr,QCs]
      repeat (first|go_big_quiet_skip|(go_big_quiet_want;(first|refine QbA _ rfl (C0.drew.nth 3 rfl) rfl ?_|refine QbA _ rfl (C0.drew.nth 2 rfl) rfl ?_);simp only[Act.put,QCw,QCz,QCy];go_big_quiet_on)|(go_big_quiet_step (fail)))
      refine wpQuiet_nil ?_
      refine⟨?mk,?_⟩
      case mk=>
       refine⟨fun o ho=>?_,trivial⟩
       simp only[QCo,QCp,Option.some.injEq]at ho
       subst ho
       exact Qc3 rfl rfl
      simp only[Qbp,pick,QCo,QCp,QCq,QCr,QCs,QDF]
      refine wpQuiet_nil ?_
      intro v1 j1
      go_wp2_with fail
      (with_reducible refine (hv.out _).mono ?_);rintro e v2 ⟨rfl,j2⟩
      go_wp2_with fail
      try refine⟨by first|assumption|exact Qab _|exact Qaa _ _|exact Later.refl _,?_⟩
      try simp only[Qai,pick,QCo,QCp,QCq,QCr,QCs]
      repeat (go_big_quiet_step (fail))
      refine wpQuiet_nil ?_
      intro v3 j3
      go_wp2_with fail
      (with_reducible refine (hM.out _).mono ?_);rintro e v4 ⟨rfl,j4⟩
      go_wp2_with fail
      try refine⟨by first|assumption|exact Qab _|exact Qaa _ _|exact Later.refl _,?_⟩
      try simp only[Qai,pick,QCo,QCp,QCq,QCr,QCs]
      repeat (go_big_quiet_step (fail))
      refine wpQuiet_nil ?_
      intro v5 gq j5 hgq _ hbq
      refine wpQuiet_nil ?_
      intro v6 j6
      simp only[Act.put,QCw,QCz,QCy]
      have hB6:Blk v6 gq 195 (QCn 8 (Value.int .u32 0)):=Blk.later (show Blk v5 gq _ _ from hbq) j6
      have jj:=((Qab _).trans j1).trans ((j2.trans j3).trans (j4.trans (j5.trans j6)))
      clear j1 j2 j3 j4 j5 j6 hbq
      refine Qaw rfl rfl _ _ rfl hB6 rfl rfl rfl ?_
      intro v7 hb7 ho7
      have C1:=C0.push jj hgq ho7 hb7
      have h0:=C1.nth 7 rfl
      have hq7:=C1.nth 0 rfl
      have L7:=C1.lat
      have hl0:=C1.at_low 7 rfl
      clear jj hB6 hgq ho7 hb7 C0 C1 hv hM
      by_cases hq:Q=0
      ·as_aux_lemma=>
       have hd:(Q==0)=true:=by simp[hq]
       have hMZ:=hid (show QcQ ks us=QCn 32 0 by rw[hMB.out,hq,Qkb])
       have hM5:=hid (show Qbt ks us=5 by rw[hME.out,if_pos hq])
       clear hq hMB hME
       go_wp2_with (first
        | (refine Qa2 rfl _ rfl hq7 rfl ?_)
        | (refine Qaq rfl 195 _ rfl (NL 0) ?hb ?_;(case hb=>simp only[QCA,QCC];exact QkD))
        | (refine Qaq rfl 79 _ rfl (QCn 32 (W8 0)) ?hb ?_;(case hb=>kernel_rfl))
        | (refine Qa5 (bs:=QCn 32 0) rfl rfl _ _ rfl h0 rfl (by kernel_rfl) rfl rfl ?_;intro w9 hb9 ho9)
        | fail)
       exact bodyPost_ret (Qae rfl _ _ _ _ _ _ hb9 rfl Tryz.underlying79 rfl (by rw[QCt,QCJ];exact Qbn)) rfl ⟨by rw[hMZ.out,hM5.out];rfl,L7.only ho9 hl0⟩
      ·as_aux_lemma=>
       have hd:(Q==0)=false:=by simp[hq]
       have hM5:=hid (show Qbt ks us=0 by rw[hME.out,if_neg hq])
       have hnl:=Qfb Q
       generalize nb Q=Y at *
       clear hME
       go_wp2_with (first
        | (refine Qa2 rfl _ rfl hq7 rfl ?_)
        | (refine Qaq rfl 195 _ rfl (NL 0) ?hb ?_;(case hb=>simp only[QCA,QCC];exact QkD))
        | (go_at_call 89;(with_reducible refine (hBy.out _).mono ?_);rintro e v8 ⟨rfl,j8⟩)
        | (refine Qa5 rfl rfl _ _ rfl (h0.later j8) rfl rfl hnl rfl ?_;intro w9 hb9 ho9)
        | fail)
       exact bodyPost_ret (Qae rfl _ _ _ _ _ _ hb9 rfl Tryz.underlying79 rfl (by rw[QCt,hnl];exact Qbn)) rfl ⟨by rw[hMB.out,hM5.out];rfl,(L7.trans j8).only ho9 hl0⟩
    | succ k=>
      have d0:=(C0.nth 5 rfl).cellD (k/8) (u:=W8 (K.getD (k/8) 0)) (by rw[QCH,QCu,QCv (by omega)];rfl)
      have hbe:=Qwx (K.getD (k/8) 0) (k%8)
      have hst:Lad.at x1 K (255-k)=(Lad.at x1 K (254-k)).round x1 (kbit K k):=by
       rw[show 255-k=(254-k)+1 by omega,Lad.at,show 254-(254-k)=k by omega]
      have hkb:kbit K k=(shr8 (K.getD (k/8) 0) (k%8)%2==1):=by rw[hbe];rfl
      generalize K.getD (k/8) 0=kb at *
      have hok:=Lad.at_ok x1 K hx (254-k)
      rw[show 255-(k+1)=254-k by omega]at C0
      generalize Lad.at x1 K (254-k)=S at *
      have HST:=hid hst
      clear hst hbe
      simp only[QkG]
      cases hb:kbit K k with
      | false=>
       as_aux_lemma=>
        rw[hb]at hkb HST
        have hd:=hkb.symm
        clear hkb
        have B0:=C0
        have cA:=hid (addR S.x2 S.z2 hok.1 hok.2.1)
        have tA:=QeT S.x2 S.z2
        generalize hA:fadd S.x2 S.z2=Av at *
        replace hA:=hid hA
        have cB:=hid (subR S.x2 S.z2 hok.1 hok.2.1)
        have tB:=QeV S.x2 S.z2
        generalize hB:fsub S.x2 S.z2=Bv at *
        replace hB:=hid hB
        have cD:=hid (subR S.x3 S.z3 hok.2.2.1 hok.2.2.2)
        have tD:=QeV S.x3 S.z3
        generalize hD:fsub S.x3 S.z3=Dv at *
        replace hD:=hid hD
        have cDA:=hid (mulR Dv Av tD tA)
        have tDA:=QbO Dv Av
        generalize hDA:fmul Dv Av=DAv at *
        replace hDA:=hid hDA
        have cC:=hid (addR S.x3 S.z3 hok.2.2.1 hok.2.2.2)
        have tC:=QeT S.x3 S.z3
        generalize hC:fadd S.x3 S.z3=Cv at *
        replace hC:=hid hC
        have cCB:=hid (mulR Cv Bv tC tB)
        have tCB:=QbO Cv Bv
        generalize hCB:fmul Cv Bv=CBv at *
        replace hCB:=hid hCB
        have cAA:=hid (mulR Av Av tA tA)
        have tAA:=QbO Av Av
        generalize hAA:fmul Av Av=AAv at *
        replace hAA:=hid hAA
        have cBB:=hid (mulR Bv Bv tB tB)
        have tBB:=QbO Bv Bv
        generalize hBB:fmul Bv Bv=BBv at *
        replace hBB:=hid hBB
        have cEe:=hid (subR AAv BBv tAA tBB)
        have tEe:=QeV AAv BBv
        generalize hEe:fsub AAv BBv=Eev at *
        replace hEe:=hid hEe
        have cSs:=hid (addR DAv CBv tDA tCB)
        have tSs:=QeT DAv CBv
        generalize hSs:fadd DAv CBv=Ssv at *
        replace hSs:=hid hSs
        have cDd:=hid (subR DAv CBv tDA tCB)
        have tDd:=QeV DAv CBv
        generalize hDd:fsub DAv CBv=Ddv at *
        replace hDd:=hid hDd
        have cSS:=hid (mulR Ssv Ssv tSs tSs)
        have tSS:=QbO Ssv Ssv
        generalize hSS:fmul Ssv Ssv=SSv at *
        replace hSS:=hid hSS
        have cDD:=hid (mulR Ddv Ddv tDd tDd)
        have tDD:=QbO Ddv Ddv
        generalize hDD:fmul Ddv Ddv=DDv at *
        replace hDD:=hid hDD
        have cZZ:=hid (mulR x1 DDv hx tDD)
        have tZZ:=QbO x1 DDv
        generalize hZZ:fmul x1 DDv=ZZv at *
        replace hZZ:=hid hZZ
        have cXX:=hid (mulR AAv BBv tAA tBB)
        have tXX:=QbO AAv BBv
        generalize hXX:fmul AAv BBv=XXv at *
        replace hXX:=hid hXX
        have cFf:=hid (mulR 121665 Eev (show 121665<T256 by decide) tEe)
        have tFf:=QbO 121665 Eev
        generalize hFf:fmul 121665 Eev=Ffv at *
        replace hFf:=hid hFf
        have cGg:=hid (addR AAv Ffv tAA tFf)
        have tGg:=QeT AAv Ffv
        generalize hGg:fadd AAv Ffv=Ggv at *
        replace hGg:=hid hGg
        have cYY:=hid (mulR Eev Ggv tEe tGg)
        have tYY:=QbO Eev Ggv
        generalize hYY:fmul Eev Ggv=YYv at *
        replace hYY:=hid hYY
        go_wp2_with (first
        | (refine Qa2 rfl _ rfl (B0.nth 3 rfl) rfl ?_)
        | (refine Qa2 rfl _ rfl (B0.nth 2 rfl) rfl ?_)
        | (go_at_call 85;(with_reducible refine (cA.out _).mono ?_);rintro e v0 ⟨rfl,j0⟩)
        | (refine Qaw rfl rfl _ _ rfl (Blk.new v0 _ (QCn 8 (.int .u32 0))) rfl rfl rfl ?_;intro u0 hb0 ho0
           have B1:=B0.push (j0.trans (Qaa v0 _)) j0.size ho0 hb0)
        | (refine Qa2 rfl _ rfl (B1.nth 4 rfl) rfl ?_)
        | (refine Qa2 rfl _ rfl (B1.nth 3 rfl) rfl ?_)
        | (go_at_call 86;(with_reducible refine (cB.out _).mono ?_);rintro e v1 ⟨rfl,j1⟩)
        | (refine Qaw rfl rfl _ _ rfl (Blk.new v1 _ (QCn 8 (.int .u32 0))) rfl rfl rfl ?_;intro u1 hb1 ho1
           have B2:=B1.push (j1.trans (Qaa v1 _)) j1.size ho1 hb1)
        | fail)
        clear j0 hb0 ho0 B0 j1 hb1 ho1 B1
        refine QaG [0,1,3] [([],1,2),([],1,4),([],2,5)] [] [6] [5] (fun _=>(fun g=>.pointer (some ⟨g,0,none⟩),.cells (QCn 8 (Value.int .u32 0)).toArray 195)) (by as_aux_lemma=>kernel_rfl) (by as_aux_lemma=>kernel_rfl) (by intro _ _ d _ _ h;cases d<;>exact h) (by intro _ _ d _ _ h;cases d<;>exact h) ?_
        simp only[pick,QCo,QCp,QCq,QCr,QCs]
        repeat (first|go_big_quiet_skip|(go_big_quiet_want;(first|refine QbA _ rfl (B2.drew.nth 3 rfl) rfl ?_|refine QbA _ rfl (B2.drew.nth 2 rfl) rfl ?_|refine QbA _ rfl (B2.drew.nth 1 rfl) rfl ?_);simp only[Act.put,QCw,QCz,QCy];go_big_quiet_on)|(go_big_quiet_step (fail)))
        refine wpQuiet_nil ?_
        refine⟨?mk,?_⟩
        case mk=>
         refine⟨fun o ho=>?_,trivial⟩
         simp only[QCo,QCp,Option.some.injEq]at ho
         subst ho
         exact Qc3 rfl rfl
        simp only[Qbp,pick,QCo,QCp,QCq,QCr,QCs,QDF]
        refine wpQuiet_nil ?_
        intro v2 j2
        go_wp2_with fail
        (with_reducible refine (cD.out _).mono ?_);rintro e v2a ⟨rfl,k2⟩
        go_wp2_with fail
        try refine⟨by first|assumption|exact Qab _|exact Qaa _ _|exact Later.refl _,?_⟩
        try simp only[Qai,pick,QCo,QCp,QCq,QCr,QCs]
        repeat (go_big_quiet_step (fail))
        refine wpQuiet_nil ?_
        intro v2b l2
        go_wp2_with fail
        (with_reducible refine (cDA.out _).mono ?_);rintro e v2c ⟨rfl,m2⟩
        go_wp2_with fail
        try refine⟨by first|assumption|exact Qab _|exact Qaa _ _|exact Later.refl _,?_⟩
        try simp only[Qai,pick,QCo,QCp,QCq,QCr,QCs]
        repeat (go_big_quiet_step (fail))
        refine wpQuiet_nil ?_
        intro v2d g2 n2 hg2 _ hb2
        refine wpQuiet_nil ?_
        intro v2e p2
        simp only[Act.put,QCw,QCz,QCy]
        have hB2:Blk v2e g2 195 (QCn 8 (Value.int .u32 0)):=Blk.later (show Blk v2d g2 _ _ from hb2) p2
        have jj:=((Qab _).trans j2).trans ((k2.trans l2).trans (m2.trans (n2.trans p2)))
        clear j2 k2 l2 m2 n2 p2 hb2
        refine Qaw rfl rfl _ _ rfl hB2 rfl rfl rfl ?_
        intro u2 hb2 ho2
        have B3:=B2.push jj hg2 ho2 hb2
        clear jj hB2 hg2 ho2 hb2 B2
        go_wp2_with fail
        refine QaG [0,1,3] [([],1,2),([],1,4),([],2,5)] [] [6] [5] (fun _=>(fun g=>.pointer (some ⟨g,0,none⟩),.cells (QCn 8 (Value.int .u32 0)).toArray 195)) (by as_aux_lemma=>kernel_rfl) (by as_aux_lemma=>kernel_rfl) (by intro _ _ d _ _ h;cases d<;>exact h) (by intro _ _ d _ _ h;cases d<;>exact h) ?_
        simp only[pick,QCo,QCp,QCq,QCr,QCs]
        repeat (first|go_big_quiet_skip|(go_big_quiet_want;(first|refine QbA _ rfl (B3.drew.nth 4 rfl) rfl ?_|refine QbA _ rfl (B3.drew.nth 3 rfl) rfl ?_|refine QbA _ rfl (B3.drew.nth 1 rfl) rfl ?_);simp only[Act.put,QCw,QCz,QCy];go_big_quiet_on)|(go_big_quiet_step (fail)))
        refine wpQuiet_nil ?_
        refine⟨?mk,?_⟩
        case mk=>
         refine⟨fun o ho=>?_,trivial⟩
         simp only[QCo,QCp,Option.some.injEq]at ho
         subst ho
         exact Qc3 rfl rfl
        simp only[Qbp,pick,QCo,QCp,QCq,QCr,QCs,QDF]
        refine wpQuiet_nil ?_
        intro v3 j3
        go_wp2_with fail
        (with_reducible refine (cC.out _).mono ?_);rintro e v3a ⟨rfl,k3⟩
        go_wp2_with fail
        try refine⟨by first|assumption|exact Qab _|exact Qaa _ _|exact Later.refl _,?_⟩
        try simp only[Qai,pick,QCo,QCp,QCq,QCr,QCs]
        repeat (go_big_quiet_step (fail))
        refine wpQuiet_nil ?_
        intro v3b l3
        go_wp2_with fail
        (with_reducible refine (cCB.out _).mono ?_);rintro e v3c ⟨rfl,m3⟩
        go_wp2_with fail
        try refine⟨by first|assumption|exact Qab _|exact Qaa _ _|exact Later.refl _,?_⟩
        try simp only[Qai,pick,QCo,QCp,QCq,QCr,QCs]
        repeat (go_big_quiet_step (fail))
        refine wpQuiet_nil ?_
        intro v3d g3 n3 hg3 _ hb3
        refine wpQuiet_nil ?_
        intro v3e p3
        simp only[Act.put,QCw,QCz,QCy]
        have hB3:Blk v3e g3 195 (QCn 8 (Value.int .u32 0)):=Blk.later (show Blk v3d g3 _ _ from hb3) p3
        have jj:=((Qab _).trans j3).trans ((k3.trans l3).trans (m3.trans (n3.trans p3)))
        clear j3 k3 l3 m3 n3 p3 hb3
        refine Qaw rfl rfl _ _ rfl hB3 rfl rfl rfl ?_
        intro u3 hb3 ho3
        have B4:=B3.push jj hg3 ho3 hb3
        clear jj hB3 hg3 ho3 hb3 B3
        go_wp2_with (first
        | (refine Qa2 rfl _ rfl (B4.nth 3 rfl) rfl ?_)
        | (go_at_call 87;(with_reducible refine (cAA.out _).mono ?_);rintro e v4 ⟨rfl,j4⟩)
        | (refine Qaw rfl rfl _ _ rfl (Blk.new v4 _ (QCn 8 (.int .u32 0))) rfl rfl rfl ?_;intro u4 hb4 ho4
           have B5:=B4.push (j4.trans (Qaa v4 _)) j4.size ho4 hb4)
        | (refine Qa2 rfl _ rfl (B5.nth 3 rfl) rfl ?_)
        | (go_at_call 87;(with_reducible refine (cBB.out _).mono ?_);rintro e v5 ⟨rfl,j5⟩)
        | (refine Qaw rfl rfl _ _ rfl (Blk.new v5 _ (QCn 8 (.int .u32 0))) rfl rfl rfl ?_;intro u5 hb5 ho5
           have B6:=B5.push (j5.trans (Qaa v5 _)) j5.size ho5 hb5)
        | (refine Qa2 rfl _ rfl (B6.nth 1 rfl) rfl ?_)
        | (refine Qa2 rfl _ rfl (B6.nth 0 rfl) rfl ?_)
        | (go_at_call 86;(with_reducible refine (cEe.out _).mono ?_);rintro e v6 ⟨rfl,j6⟩)
        | (refine Qaw rfl rfl _ _ rfl (Blk.new v6 _ (QCn 8 (.int .u32 0))) rfl rfl rfl ?_;intro u6 hb6 ho6
           have B7:=B6.push (j6.trans (Qaa v6 _)) j6.size ho6 hb6)
        | (refine Qa2 rfl _ rfl (B7.nth 4 rfl) rfl ?_)
        | (refine Qa2 rfl _ rfl (B7.nth 3 rfl) rfl ?_)
        | (go_at_call 85;(with_reducible refine (cSs.out _).mono ?_);rintro e v7 ⟨rfl,j7⟩)
        | (refine Qaw rfl rfl _ _ rfl (Blk.new v7 _ (QCn 8 (.int .u32 0))) rfl rfl rfl ?_;intro u7 hb7 ho7
           have B8:=B7.push (j7.trans (Qaa v7 _)) j7.size ho7 hb7)
        | (refine Qa2 rfl _ rfl (B8.nth 5 rfl) rfl ?_)
        | (refine Qa2 rfl _ rfl (B8.nth 4 rfl) rfl ?_)
        | (go_at_call 86;(with_reducible refine (cDd.out _).mono ?_);rintro e v8 ⟨rfl,j8⟩)
        | (refine Qaw rfl rfl _ _ rfl (Blk.new v8 _ (QCn 8 (.int .u32 0))) rfl rfl rfl ?_;intro u8 hb8 ho8
           have B9:=B8.push (j8.trans (Qaa v8 _)) j8.size ho8 hb8)
        | (refine Qa2 rfl _ rfl (B9.nth 1 rfl) rfl ?_)
        | (go_at_call 87;(with_reducible refine (cSS.out _).mono ?_);rintro e v9 ⟨rfl,j9⟩)
        | (refine Qaw rfl rfl _ _ rfl ((B9.later j9).nth 10 rfl) rfl rfl (QaB _) ?_;intro u9 hb9 ho9
           have B10:=(B9.later j9).write 10 rfl ho9 hb9)
        | fail)
        clear j4 hb4 ho4 B4 j5 hb5 ho5 B5 j6 hb6 ho6 B6 j7 hb7 ho7 B7 j8 hb8 ho8 B8 j9 hb9 ho9 B9
        refine Qad [([0,1,2],3)] [] [4,5] (by as_aux_lemma=>kernel_rfl) (by as_aux_lemma=>kernel_rfl) (by intro _ _ d _ _ h;cases d<;>exact h) ?_
        simp only[Qai,pick,QCo,QCp,QCq,QCr,QCs]
        repeat (first|go_big_quiet_skip|(go_big_quiet_want;(first|refine QbA _ rfl (B10.drew.nth 13 rfl) rfl ?_|refine QbA _ rfl (B10.drew.nth 0 rfl) rfl ?_);simp only[Act.put,QCw,QCz,QCy];go_big_quiet_on)|(go_big_quiet_step (fail)))
        refine wpQuiet_nil ?_
        go_wp2_with fail
        (with_reducible refine (cDD.out _).mono ?_);rintro e v10 ⟨rfl,j10⟩
        replace j10:=(Qab _).trans j10
        go_wp2_with fail
        try refine⟨by first|assumption|exact Qab _|exact Qaa _ _|exact Later.refl _,?_⟩
        try simp only[Qai,pick,QCo,QCp,QCq,QCr,QCs]
        repeat (go_big_quiet_step (fail))
        refine wpQuiet_nil ?_
        go_wp2_with fail
        (with_reducible refine (cZZ.out _).mono ?_);rintro e v10a ⟨rfl,k10⟩
        have B10a:=B10.later (j10.trans k10)
        clear j10 k10 B10
        go_wp2_with (first
        | (refine Qaw rfl rfl _ _ rfl (B10a.nth 9 rfl) rfl rfl (QaB _) ?_;intro u10 hb10 ho10
           have B11:=B10a.write 9 rfl ho10 hb10)
        | (refine Qa2 rfl _ rfl (B11.nth 4 rfl) rfl ?_)
        | (refine Qa2 rfl _ rfl (B11.nth 3 rfl) rfl ?_)
        | (go_at_call 87;(with_reducible refine (cXX.out _).mono ?_);rintro e v11 ⟨rfl,j11⟩)
        | (refine Qaw rfl rfl _ _ rfl ((B11.later j11).nth 12 rfl) rfl rfl (QaB _) ?_;intro u11 hb11 ho11
           have B12:=(B11.later j11).write 12 rfl ho11 hb11)
        | fail)
        clear hb10 ho10 B10a hb11 ho11 j11 B11
        refine Qad [([0,1,2,3],4),([],5)] [] [6,7] (by as_aux_lemma=>kernel_rfl) (by as_aux_lemma=>kernel_rfl) (by intro _ _ d _ _ h;cases d<;>exact h) ?_
        simp only[Qai,pick,QCo,QCp,QCq,QCr,QCs]
        repeat (first|go_big_quiet_skip|(go_big_quiet_want;(first|refine QbA _ rfl (B12.drew.nth 2 rfl) rfl ?_|refine QbA _ rfl (B12.drew.nth 4 rfl) rfl ?_|refine Qb0 _ _ rfl (NL 121665) (by simp only[QCA,QCR,QCC];exact Qlk) ?_);simp only[Act.put,QCw,QCz,QCy];go_big_quiet_on)|(go_big_quiet_step (fail)))
        refine wpQuiet_nil ?_
        go_wp2_with fail
        (with_reducible refine (cFf.out _).mono ?_);rintro e v12 ⟨rfl,j12⟩
        replace j12:=(Qab _).trans j12
        go_wp2_with fail
        try refine⟨by first|assumption|exact Qab _|exact Qaa _ _|exact Later.refl _,?_⟩
        try simp only[Qai,pick,QCo,QCp,QCq,QCr,QCs]
        repeat (go_big_quiet_step (fail))
        refine wpQuiet_nil ?_
        go_wp2_with fail
        (with_reducible refine (cGg.out _).mono ?_);rintro e v12a ⟨rfl,k12⟩
        go_wp2_with fail
        try refine⟨by first|assumption|exact Qab _|exact Qaa _ _|exact Later.refl _,?_⟩
        try simp only[Qai,pick,QCo,QCp,QCq,QCr,QCs]
        repeat (go_big_quiet_step (fail))
        refine wpQuiet_nil ?_
        go_wp2_with fail
        (with_reducible refine (cYY.out _).mono ?_);rintro e v12b ⟨rfl,l12⟩
        have B12a:=B12.later (j12.trans (k12.trans l12))
        clear j12 k12 l12 B12
        go_wp2_with (first
        | (refine Qaw rfl rfl _ _ rfl (B12a.nth 11 rfl) rfl rfl (QaB _) ?_;intro u12 hb12 ho12
           have B13:=B12a.write 11 rfl ho12 hb12)
        | fail)
        go_roundw
        case rel=>
         refine⟨k,by omega,?hi,?hB⟩
         case hi=>rw[Qfl]
         case hB=>
          have hstep:S.step x1=⟨XXv,YYv,SSv,ZZv⟩:=by simp only[Lad.step,hA.out,hB.out,hD.out,hDA.out,hC.out,hCB.out,hAA.out,hBB.out,hEe.out,hSs.out,hDd.out,hSS.out,hDD.out,hZZ.out,hXX.out,hFf.out,hGg.out,hYY.out]
          rw[HST.out,Lad.round,if_neg (by simp),hstep]
          exact B13.drop 9
        case measure=>simp[intOf]
      | true=>
       as_aux_lemma=>
        rw[hb]at hkb HST
        have hd:=hkb.symm
        clear hkb
        go_wp2_with fail
        refine Qdd [0,1,2,3] [4,5,6,7] (fun i=>if i=1 then [4] else []) (fun i=>if i=4 then gA else if i=5 then gB else if i=6 then gC else gD) (by as_aux_lemma=>kernel_rfl) (by as_aux_lemma=>kernel_rfl) (by intro _ _ d _ _ h;cases d<;>exact h) ?_
        refine⟨_,rfl,rfl,?_⟩
        refine Qed _ rfl (C0.nth 1 rfl) (by simp) rfl ?_
        simp only[Act.put,QCw,QCz,QCy]
        refine⟨_,rfl,rfl,?_⟩
        refine Qed _ rfl (C0.nth 0 rfl) (by intro b hb;simp at hb;subst hb;exact C0.ne 0 3 rfl rfl (by decide)) rfl ?_
        simp only[Act.put,QCw,QCz,QCy]
        refine⟨_,rfl,rfl,?_⟩
        refine Qed _ rfl (C0.nth 3 rfl) (by simp) rfl ?_
        simp only[Act.put,QCw,QCz,QCy]
        refine⟨_,rfl,rfl,?_⟩
        refine Qed _ rfl (C0.nth 2 rfl) (by simp) rfl ?_
        simp only[Act.put,QCw,QCz,QCy]
        simp only[Qiw,Qge,pick,QCo,QCp,QCq,QCr,QCs]
        refine Qaw rfl rfl _ _ rfl (C0.drew.nth 3 rfl) rfl rfl (QaB _) ?_
        intro q1 hb1 ho1
        have Aa:=C0.drew.write 3 rfl ho1 hb1
        refine⟨ho1,?_⟩
        refine Qaw rfl rfl _ _ rfl (Aa.nth 2 rfl) rfl rfl (QaB _) ?_
        intro q2 hb2 ho2
        have Ab:=Aa.write 2 rfl ho2 hb2
        refine⟨ho2,?_⟩
        refine Qaw rfl rfl _ _ rfl (Ab.nth 1 rfl) rfl rfl (QaB _) ?_
        intro q3 hb3 ho3
        have Ac:=Ab.write 1 rfl ho3 hb3
        refine⟨ho3,?_⟩
        refine Qaw rfl rfl _ _ rfl (Ac.nth 0 rfl) rfl rfl (QaB _) ?_
        intro q4 hb4 ho4
        have Ad:=Ac.write 0 rfl ho4 hb4
        refine⟨ho4,?_⟩
        have hok1:S.swap.Ok:=Lad.swap_ok hok
        have B0:Bag w q4 (bagL gD gC gB gA g8 g6 g0 x1 K S.swap):=Ad
        generalize hSw:S.swap=S1 at *
        replace hSw:=hid hSw
        replace hok:=hok1
        clear hb1 ho1 hb2 ho2 hb3 ho3 hb4 ho4 Aa Ab Ac Ad C0 hok1 hb
        have cA:=hid (addR S1.x2 S1.z2 hok.1 hok.2.1)
        have tA:=QeT S1.x2 S1.z2
        generalize hA:fadd S1.x2 S1.z2=Av at *
        replace hA:=hid hA
        have cB:=hid (subR S1.x2 S1.z2 hok.1 hok.2.1)
        have tB:=QeV S1.x2 S1.z2
        generalize hB:fsub S1.x2 S1.z2=Bv at *
        replace hB:=hid hB
        have cD:=hid (subR S1.x3 S1.z3 hok.2.2.1 hok.2.2.2)
        have tD:=QeV S1.x3 S1.z3
        generalize hD:fsub S1.x3 S1.z3=Dv at *
        replace hD:=hid hD
        have cDA:=hid (mulR Dv Av tD tA)
        have tDA:=QbO Dv Av
        generalize hDA:fmul Dv Av=DAv at *
        replace hDA:=hid hDA
        have cC:=hid (addR S1.x3 S1.z3 hok.2.2.1 hok.2.2.2)
        have tC:=QeT S1.x3 S1.z3
        generalize hC:fadd S1.x3 S1.z3=Cv at *
        replace hC:=hid hC
        have cCB:=hid (mulR Cv Bv tC tB)
        have tCB:=QbO Cv Bv
        generalize hCB:fmul Cv Bv=CBv at *
        replace hCB:=hid hCB
        have cAA:=hid (mulR Av Av tA tA)
        have tAA:=QbO Av Av
        generalize hAA:fmul Av Av=AAv at *
        replace hAA:=hid hAA
        have cBB:=hid (mulR Bv Bv tB tB)
        have tBB:=QbO Bv Bv
        generalize hBB:fmul Bv Bv=BBv at *
        replace hBB:=hid hBB
        have cEe:=hid (subR AAv BBv tAA tBB)
        have tEe:=QeV AAv BBv
        generalize hEe:fsub AAv BBv=Eev at *
        replace hEe:=hid hEe
        have cSs:=hid (addR DAv CBv tDA tCB)
        have tSs:=QeT DAv CBv
        generalize hSs:fadd DAv CBv=Ssv at *
        replace hSs:=hid hSs
        have cDd:=hid (subR DAv CBv tDA tCB)
        have tDd:=QeV DAv CBv
        generalize hDd:fsub DAv CBv=Ddv at *
        replace hDd:=hid hDd
        have cSS:=hid (mulR Ssv Ssv tSs tSs)
        have tSS:=QbO Ssv Ssv
        generalize hSS:fmul Ssv Ssv=SSv at *
        replace hSS:=hid hSS
        have cDD:=hid (mulR Ddv Ddv tDd tDd)
        have tDD:=QbO Ddv Ddv
        generalize hDD:fmul Ddv Ddv=DDv at *
        replace hDD:=hid hDD
        have cZZ:=hid (mulR x1 DDv hx tDD)
        have tZZ:=QbO x1 DDv
        generalize hZZ:fmul x1 DDv=ZZv at *
        replace hZZ:=hid hZZ
        have cXX:=hid (mulR AAv BBv tAA tBB)
        have tXX:=QbO AAv BBv
        generalize hXX:fmul AAv BBv=XXv at *
        replace hXX:=hid hXX
        have cFf:=hid (mulR 121665 Eev (show 121665<T256 by decide) tEe)
        have tFf:=QbO 121665 Eev
        generalize hFf:fmul 121665 Eev=Ffv at *
        replace hFf:=hid hFf
        have cGg:=hid (addR AAv Ffv tAA tFf)
        have tGg:=QeT AAv Ffv
        generalize hGg:fadd AAv Ffv=Ggv at *
        replace hGg:=hid hGg
        have cYY:=hid (mulR Eev Ggv tEe tGg)
        have tYY:=QbO Eev Ggv
        generalize hYY:fmul Eev Ggv=YYv at *
        replace hYY:=hid hYY
        go_wp2_with (first
        | (refine Qa2 rfl _ rfl (B0.nth 3 rfl) rfl ?_)
        | (refine Qa2 rfl _ rfl (B0.nth 2 rfl) rfl ?_)
        | (go_at_call 85;(with_reducible refine (cA.out _).mono ?_);rintro e v0 ⟨rfl,j0⟩)
        | (refine Qaw rfl rfl _ _ rfl (Blk.new v0 _ (QCn 8 (.int .u32 0))) rfl rfl rfl ?_;intro u0 hb0 ho0
           have B1:=B0.push (j0.trans (Qaa v0 _)) j0.size ho0 hb0)
        | (refine Qa2 rfl _ rfl (B1.nth 4 rfl) rfl ?_)
        | (refine Qa2 rfl _ rfl (B1.nth 3 rfl) rfl ?_)
        | (go_at_call 86;(with_reducible refine (cB.out _).mono ?_);rintro e v1 ⟨rfl,j1⟩)
        | (refine Qaw rfl rfl _ _ rfl (Blk.new v1 _ (QCn 8 (.int .u32 0))) rfl rfl rfl ?_;intro u1 hb1 ho1
           have B2:=B1.push (j1.trans (Qaa v1 _)) j1.size ho1 hb1)
        | fail)
        clear j0 hb0 ho0 B0 j1 hb1 ho1 B1
        refine QaG [0,1,3] [([],1,2),([],1,4),([],2,5)] [] [6] [5] (fun _=>(fun g=>.pointer (some ⟨g,0,none⟩),.cells (QCn 8 (Value.int .u32 0)).toArray 195)) (by as_aux_lemma=>kernel_rfl) (by as_aux_lemma=>kernel_rfl) (by intro _ _ d _ _ h;cases d<;>exact h) (by intro _ _ d _ _ h;cases d<;>exact h) ?_
        simp only[pick,QCo,QCp,QCq,QCr,QCs]
        repeat (first|go_big_quiet_skip|(go_big_quiet_want;(first|refine QbA _ rfl (B2.drew.nth 3 rfl) rfl ?_|refine QbA _ rfl (B2.drew.nth 2 rfl) rfl ?_|refine QbA _ rfl (B2.drew.nth 1 rfl) rfl ?_);simp only[Act.put,QCw,QCz,QCy];go_big_quiet_on)|(go_big_quiet_step (fail)))
        refine wpQuiet_nil ?_
        refine⟨?mk,?_⟩
        case mk=>
         refine⟨fun o ho=>?_,trivial⟩
         simp only[QCo,QCp,Option.some.injEq]at ho
         subst ho
         exact Qc3 rfl rfl
        simp only[Qbp,pick,QCo,QCp,QCq,QCr,QCs,QDF]
        refine wpQuiet_nil ?_
        intro v2 j2
        go_wp2_with fail
        (with_reducible refine (cD.out _).mono ?_);rintro e v2a ⟨rfl,k2⟩
        go_wp2_with fail
        try refine⟨by first|assumption|exact Qab _|exact Qaa _ _|exact Later.refl _,?_⟩
        try simp only[Qai,pick,QCo,QCp,QCq,QCr,QCs]
        repeat (go_big_quiet_step (fail))
        refine wpQuiet_nil ?_
        intro v2b l2
        go_wp2_with fail
        (with_reducible refine (cDA.out _).mono ?_);rintro e v2c ⟨rfl,m2⟩
        go_wp2_with fail
        try refine⟨by first|assumption|exact Qab _|exact Qaa _ _|exact Later.refl _,?_⟩
        try simp only[Qai,pick,QCo,QCp,QCq,QCr,QCs]
        repeat (go_big_quiet_step (fail))
        refine wpQuiet_nil ?_
        intro v2d g2 n2 hg2 _ hb2
        refine wpQuiet_nil ?_
        intro v2e p2
        simp only[Act.put,QCw,QCz,QCy]
        have hB2:Blk v2e g2 195 (QCn 8 (Value.int .u32 0)):=Blk.later (show Blk v2d g2 _ _ from hb2) p2
        have jj:=((Qab _).trans j2).trans ((k2.trans l2).trans (m2.trans (n2.trans p2)))
        clear j2 k2 l2 m2 n2 p2 hb2
        refine Qaw rfl rfl _ _ rfl hB2 rfl rfl rfl ?_
        intro u2 hb2 ho2
        have B3:=B2.push jj hg2 ho2 hb2
        clear jj hB2 hg2 ho2 hb2 B2
        go_wp2_with fail
        refine QaG [0,1,3] [([],1,2),([],1,4),([],2,5)] [] [6] [5] (fun _=>(fun g=>.pointer (some ⟨g,0,none⟩),.cells (QCn 8 (Value.int .u32 0)).toArray 195)) (by as_aux_lemma=>kernel_rfl) (by as_aux_lemma=>kernel_rfl) (by intro _ _ d _ _ h;cases d<;>exact h) (by intro _ _ d _ _ h;cases d<;>exact h) ?_
        simp only[pick,QCo,QCp,QCq,QCr,QCs]
        repeat (first|go_big_quiet_skip|(go_big_quiet_want;(first|refine QbA _ rfl (B3.drew.nth 4 rfl) rfl ?_|refine QbA _ rfl (B3.drew.nth 3 rfl) rfl ?_|refine QbA _ rfl (B3.drew.nth 1 rfl) rfl ?_);simp only[Act.put,QCw,QCz,QCy];go_big_quiet_on)|(go_big_quiet_step (fail)))
        refine wpQuiet_nil ?_
        refine⟨?mk,?_⟩
        case mk=>
         refine⟨fun o ho=>?_,trivial⟩
         simp only[QCo,QCp,Option.some.injEq]at ho
         subst ho
         exact Qc3 rfl rfl
        simp only[Qbp,pick,QCo,QCp,QCq,QCr,QCs,QDF]
        refine wpQuiet_nil ?_
        intro v3 j3
        go_wp2_with fail
        (with_reducible refine (cC.out _).mono ?_);rintro e v3a ⟨rfl,k3⟩
        go_wp2_with fail
        try refine⟨by first|assumption|exact Qab _|exact Qaa _ _|exact Later.refl _,?_⟩
        try simp only[Qai,pick,QCo,QCp,QCq,QCr,QCs]
        repeat (go_big_quiet_step (fail))
        refine wpQuiet_nil ?_
        intro v3b l3
        go_wp2_with fail
        (with_reducible refine (cCB.out _).mono ?_);rintro e v3c ⟨rfl,m3⟩
        go_wp2_with fail
        try refine⟨by first|assumption|exact Qab _|exact Qaa _ _|exact Later.refl _,?_⟩
        try simp only[Qai,pick,QCo,QCp,QCq,QCr,QCs]
        repeat (go_big_quiet_step (fail))
        refine wpQuiet_nil ?_
        intro v3d g3 n3 hg3 _ hb3
        refine wpQuiet_nil ?_
        intro v3e p3
        simp only[Act.put,QCw,QCz,QCy]
        have hB3:Blk v3e g3 195 (QCn 8 (Value.int .u32 0)):=Blk.later (show Blk v3d g3 _ _ from hb3) p3
        have jj:=((Qab _).trans j3).trans ((k3.trans l3).trans (m3.trans (n3.trans p3)))
        clear j3 k3 l3 m3 n3 p3 hb3
        refine Qaw rfl rfl _ _ rfl hB3 rfl rfl rfl ?_
        intro u3 hb3 ho3
        have B4:=B3.push jj hg3 ho3 hb3
        clear jj hB3 hg3 ho3 hb3 B3
        go_wp2_with (first
        | (refine Qa2 rfl _ rfl (B4.nth 3 rfl) rfl ?_)
        | (go_at_call 87;(with_reducible refine (cAA.out _).mono ?_);rintro e v4 ⟨rfl,j4⟩)
        | (refine Qaw rfl rfl _ _ rfl (Blk.new v4 _ (QCn 8 (.int .u32 0))) rfl rfl rfl ?_;intro u4 hb4 ho4
           have B5:=B4.push (j4.trans (Qaa v4 _)) j4.size ho4 hb4)
        | (refine Qa2 rfl _ rfl (B5.nth 3 rfl) rfl ?_)
        | (go_at_call 87;(with_reducible refine (cBB.out _).mono ?_);rintro e v5 ⟨rfl,j5⟩)
        | (refine Qaw rfl rfl _ _ rfl (Blk.new v5 _ (QCn 8 (.int .u32 0))) rfl rfl rfl ?_;intro u5 hb5 ho5
           have B6:=B5.push (j5.trans (Qaa v5 _)) j5.size ho5 hb5)
        | (refine Qa2 rfl _ rfl (B6.nth 1 rfl) rfl ?_)
        | (refine Qa2 rfl _ rfl (B6.nth 0 rfl) rfl ?_)
        | (go_at_call 86;(with_reducible refine (cEe.out _).mono ?_);rintro e v6 ⟨rfl,j6⟩)
        | (refine Qaw rfl rfl _ _ rfl (Blk.new v6 _ (QCn 8 (.int .u32 0))) rfl rfl rfl ?_;intro u6 hb6 ho6
           have B7:=B6.push (j6.trans (Qaa v6 _)) j6.size ho6 hb6)
        | (refine Qa2 rfl _ rfl (B7.nth 4 rfl) rfl ?_)
        | (refine Qa2 rfl _ rfl (B7.nth 3 rfl) rfl ?_)
        | (go_at_call 85;(with_reducible refine (cSs.out _).mono ?_);rintro e v7 ⟨rfl,j7⟩)
        | (refine Qaw rfl rfl _ _ rfl (Blk.new v7 _ (QCn 8 (.int .u32 0))) rfl rfl rfl ?_;intro u7 hb7 ho7
           have B8:=B7.push (j7.trans (Qaa v7 _)) j7.size ho7 hb7)
        | (refine Qa2 rfl _ rfl (B8.nth 5 rfl) rfl ?_)
        | (refine Qa2 rfl _ rfl (B8.nth 4 rfl) rfl ?_)
        | (go_at_call 86;(with_reducible refine (cDd.out _).mono ?_);rintro e v8 ⟨rfl,j8⟩)
        | (refine Qaw rfl rfl _ _ rfl (Blk.new v8 _ (QCn 8 (.int .u32 0))) rfl rfl rfl ?_;intro u8 hb8 ho8
           have B9:=B8.push (j8.trans (Qaa v8 _)) j8.size ho8 hb8)
        | (refine Qa2 rfl _ rfl (B9.nth 1 rfl) rfl ?_)
        | (go_at_call 87;(with_reducible refine (cSS.out _).mono ?_);rintro e v9 ⟨rfl,j9⟩)
        | (refine Qaw rfl rfl _ _ rfl ((B9.later j9).nth 10 rfl) rfl rfl (QaB _) ?_;intro u9 hb9 ho9
           have B10:=(B9.later j9).write 10 rfl ho9 hb9)
        | fail)
        clear j4 hb4 ho4 B4 j5 hb5 ho5 B5 j6 hb6 ho6 B6 j7 hb7 ho7 B7 j8 hb8 ho8 B8 j9 hb9 ho9 B9
        refine Qad [([0,1,2],3)] [] [4,5] (by as_aux_lemma=>kernel_rfl) (by as_aux_lemma=>kernel_rfl) (by intro _ _ d _ _ h;cases d<;>exact h) ?_
        simp only[Qai,pick,QCo,QCp,QCq,QCr,QCs]
        repeat (first|go_big_quiet_skip|(go_big_quiet_want;(first|refine QbA _ rfl (B10.drew.nth 13 rfl) rfl ?_|refine QbA _ rfl (B10.drew.nth 0 rfl) rfl ?_);simp only[Act.put,QCw,QCz,QCy];go_big_quiet_on)|(go_big_quiet_step (fail)))
        refine wpQuiet_nil ?_
        go_wp2_with fail
        (with_reducible refine (cDD.out _).mono ?_);rintro e v10 ⟨rfl,j10⟩
        replace j10:=(Qab _).trans j10
        go_wp2_with fail
        try refine⟨by first|assumption|exact Qab _|exact Qaa _ _|exact Later.refl _,?_⟩
        try simp only[Qai,pick,QCo,QCp,QCq,QCr,QCs]
        repeat (go_big_quiet_step (fail))
        refine wpQuiet_nil ?_
        go_wp2_with fail
        (with_reducible refine (cZZ.out _).mono ?_);rintro e v10a ⟨rfl,k10⟩
        have B10a:=B10.later (j10.trans k10)
        clear j10 k10 B10
        go_wp2_with (first
        | (refine Qaw rfl rfl _ _ rfl (B10a.nth 9 rfl) rfl rfl (QaB _) ?_;intro u10 hb10 ho10
           have B11:=B10a.write 9 rfl ho10 hb10)
        | (refine Qa2 rfl _ rfl (B11.nth 4 rfl) rfl ?_)
        | (refine Qa2 rfl _ rfl (B11.nth 3 rfl) rfl ?_)
        | (go_at_call 87;(with_reducible refine (cXX.out _).mono ?_);rintro e v11 ⟨rfl,j11⟩)
        | (refine Qaw rfl rfl _ _ rfl ((B11.later j11).nth 12 rfl) rfl rfl (QaB _) ?_;intro u11 hb11 ho11
           have B12:=(B11.later j11).write 12 rfl ho11 hb11)
        | fail)
        clear hb10 ho10 B10a hb11 ho11 j11 B11
        refine Qad [([0,1,2,3],4),([],5)] [] [6,7] (by as_aux_lemma=>kernel_rfl) (by as_aux_lemma=>kernel_rfl) (by intro _ _ d _ _ h;cases d<;>exact h) ?_
        simp only[Qai,pick,QCo,QCp,QCq,QCr,QCs]
        repeat (first|go_big_quiet_skip|(go_big_quiet_want;(first|refine QbA _ rfl (B12.drew.nth 2 rfl) rfl ?_|refine QbA _ rfl (B12.drew.nth 4 rfl) rfl ?_|refine Qb0 _ _ rfl (NL 121665) (by simp only[QCA,QCR,QCC];exact Qlk) ?_);simp only[Act.put,QCw,QCz,QCy];go_big_quiet_on)|(go_big_quiet_step (fail)))
        refine wpQuiet_nil ?_
        go_wp2_with fail
        (with_reducible refine (cFf.out _).mono ?_);rintro e v12 ⟨rfl,j12⟩
        replace j12:=(Qab _).trans j12
        go_wp2_with fail
        try refine⟨by first|assumption|exact Qab _|exact Qaa _ _|exact Later.refl _,?_⟩
        try simp only[Qai,pick,QCo,QCp,QCq,QCr,QCs]
        repeat (go_big_quiet_step (fail))
        refine wpQuiet_nil ?_
        go_wp2_with fail
        (with_reducible refine (cGg.out _).mono ?_);rintro e v12a ⟨rfl,k12⟩
        go_wp2_with fail
        try refine⟨by first|assumption|exact Qab _|exact Qaa _ _|exact Later.refl _,?_⟩
        try simp only[Qai,pick,QCo,QCp,QCq,QCr,QCs]
        repeat (go_big_quiet_step (fail))
        refine wpQuiet_nil ?_
        go_wp2_with fail
        (with_reducible refine (cYY.out _).mono ?_);rintro e v12b ⟨rfl,l12⟩
        have B12a:=B12.later (j12.trans (k12.trans l12))
        clear j12 k12 l12 B12
        go_wp2_with (first
        | (refine Qaw rfl rfl _ _ rfl (B12a.nth 11 rfl) rfl rfl (QaB _) ?_;intro u12 hb12 ho12
           have B13:=B12a.write 11 rfl ho12 hb12)
        | fail)
        have D0:Bag w u12 (bagL gD gC gB gA g8 g6 g0 x1 K ⟨XXv,YYv,SSv,ZZv⟩):=B13.drop 9
        refine Qdd [0,1,2,3] [4,5,6,7] (fun i=>if i=1 then [4] else []) (fun i=>if i=4 then gA else if i=5 then gB else if i=6 then gC else gD) (by as_aux_lemma=>kernel_rfl) (by as_aux_lemma=>kernel_rfl) (by intro _ _ d _ _ h;cases d<;>exact h) ?_
        refine⟨_,rfl,rfl,?_⟩
        refine Qed _ rfl (D0.nth 1 rfl) (by simp) rfl ?_
        simp only[Act.put,QCw,QCz,QCy]
        refine⟨_,rfl,rfl,?_⟩
        refine Qed _ rfl (D0.nth 0 rfl) (by intro b hb;simp at hb;subst hb;exact D0.ne 0 3 rfl rfl (by decide)) rfl ?_
        simp only[Act.put,QCw,QCz,QCy]
        refine⟨_,rfl,rfl,?_⟩
        refine Qed _ rfl (D0.nth 3 rfl) (by simp) rfl ?_
        simp only[Act.put,QCw,QCz,QCy]
        refine⟨_,rfl,rfl,?_⟩
        refine Qed _ rfl (D0.nth 2 rfl) (by simp) rfl ?_
        simp only[Act.put,QCw,QCz,QCy]
        simp only[Qiw,Qge,pick,QCo,QCp,QCq,QCr,QCs]
        refine Qaw rfl rfl _ _ rfl (D0.drew.nth 3 rfl) rfl rfl (QaB _) ?_
        intro r1 hb1 ho1
        have Za:=D0.drew.write 3 rfl ho1 hb1
        refine⟨ho1,?_⟩
        refine Qaw rfl rfl _ _ rfl (Za.nth 2 rfl) rfl rfl (QaB _) ?_
        intro r2 hb2 ho2
        have Zb:=Za.write 2 rfl ho2 hb2
        refine⟨ho2,?_⟩
        refine Qaw rfl rfl _ _ rfl (Zb.nth 1 rfl) rfl rfl (QaB _) ?_
        intro r3 hb3 ho3
        have Zc:=Zb.write 1 rfl ho3 hb3
        refine⟨ho3,?_⟩
        refine Qaw rfl rfl _ _ rfl (Zc.nth 0 rfl) rfl rfl (QaB _) ?_
        intro r4 hb4 ho4
        have Zd:=Zc.write 0 rfl ho4 hb4
        refine⟨ho4,?_⟩
        go_wp2_with fail
        go_roundw
        case rel=>
         refine⟨k,by omega,?hi,?hB⟩
         case hi=>rw[Qfl]
         case hB=>
          have hstep:S1.step x1=⟨XXv,YYv,SSv,ZZv⟩:=by simp only[Lad.step,hA.out,hB.out,hD.out,hDA.out,hC.out,hCB.out,hAA.out,hBB.out,hEe.out,hSs.out,hDd.out,hSS.out,hDD.out,hZZ.out,hXX.out,hFf.out,hGg.out,hYY.out]
          rw[HST.out,Lad.round,if_pos rfl,hSw.out,hstep]
          exact Zd
        case measure=>simp[intOf]
  ·as_aux_lemma=>
   have eU:Qcq us=2:=by rw[Qcq,if_neg (by omega)]
   rw[eU]at cU
   have hMB:=hid (show QcQ ks us=QCn 32 0 by rw[QcQ,if_neg (by omega)])
   have hME:=hid (show Qbt ks us=2 by rw[Qbt,if_neg (by omega)])
   generalize Qb4 ks=K at *
   generalize QdV us=x1 at *
   go_enter Tryz.func61,Tryz.ntmps61
   go_wp2_with fail
   generalize hW:w.alloc _=w0
   replace L0:Later w w0:=by rw[←hW];exact Qaa _ _
   replace hb0:Blk w0 w.heap.size 79 (QCn 32 (Value.int .u8 0)):=by rw[←hW];exact Blk.new w 79 (QCn 32 (Value.int .u8 0))
   clear hW
   (with_reducible refine (cK.out _ (hk.later L0)).mono ?_);rintro e w1 ⟨rfl,hl1⟩
   replace hb0:=hb0.later hl1
   replace L0:=L0.trans hl1
   go_wp2_with (first
    | (refine Qa5 rfl rfl _ _ rfl (Blk.new w1 _ (QCn 32 (.int .u8 0))) rfl rfl hcl rfl ?_;intro w2 hb2 ho2)
    | fail)
   replace hb0:=(hb0.later (Qaa w1 (.cells (QCn 32 (.int .u8 0)).toArray 79))).only ho2 (by have:=hb0.lt;omega)
   replace L0:=(L0.trans (Qaa w1 (.cells (QCn 32 (.int .u8 0)).toArray 79))).only ho2 (by have:=L0.size;omega)
   clear ho2 hl1
   (with_reducible refine (cU.out _ (hu.later L0)).mono ?_);rintro e w3 ⟨rfl,hl3⟩
   replace hb0:=hb0.later hl3
   replace L0:=L0.trans hl3
   go_wp2_with (first
    | (refine Qaw rfl rfl _ _ rfl (Blk.new w3 _ (QCn 8 (.int .u32 0))) rfl rfl rfl ?_;intro w4 hb4 ho4
       have hb04:=(hb0.later (Qaa w3 (.cells (QCn 8 (.int .u32 0)).toArray 195))).only ho4 (by have:=hb0.lt;omega)
       have L04:=(L0.trans (Qaa w3 (.cells (QCn 8 (.int .u32 0)).toArray 195))).only ho4 (by have:=L0.size;omega))
    | (refine Qaq rfl 79 _ rfl (QCn 32 (W8 0)) ?hb ?_;(case hb=>kernel_rfl))
    | (refine Qa5 (bs:=QCn 32 0) rfl rfl _ _ rfl hb04 rfl (by kernel_rfl) rfl rfl ?_;intro w9 hb9 ho9)
    | fail)
   exact bodyPost_ret (Qae rfl _ _ _ _ _ _ hb9 rfl Tryz.underlying79 rfl (by rw[QCt,QCJ];exact Qbn)) rfl ⟨by rw[hMB.out,hME.out];rfl,L04.only ho9 (by omega)⟩
 ·as_aux_lemma=>
  have eK:Qcq ks=2:=by rw[Qcq,if_neg (by omega)]
  rw[eK]at cK
  have hMB:=hid (show QcQ ks us=QCn 32 0 by rw[QcQ,if_neg (by omega)])
  have hME:=hid (show Qbt ks us=2 by rw[Qbt,if_neg (by omega)])
  generalize Qb4 ks=K at *
  go_enter Tryz.func61,Tryz.ntmps61
  go_wp2_with fail
  generalize hW:w.alloc _=w0
  replace L0:Later w w0:=by rw[←hW];exact Qaa _ _
  replace hb0:Blk w0 w.heap.size 79 (QCn 32 (Value.int .u8 0)):=by rw[←hW];exact Blk.new w 79 (QCn 32 (Value.int .u8 0))
  clear hW
  (with_reducible refine (cK.out _ (hk.later L0)).mono ?_);rintro e w1 ⟨rfl,hl1⟩
  replace hb0:=hb0.later hl1
  replace L0:=L0.trans hl1
  go_wp2_with (first
   | (refine Qa5 rfl rfl _ _ rfl (Blk.new w1 _ (QCn 32 (.int .u8 0))) rfl rfl hcl rfl ?_;intro w2 hb2 ho2
      have hb02:=(hb0.later (Qaa w1 (.cells (QCn 32 (.int .u8 0)).toArray 79))).only ho2 (by have:=hb0.lt;omega)
      have L02:=(L0.trans (Qaa w1 (.cells (QCn 32 (.int .u8 0)).toArray 79))).only ho2 (by have:=L0.size;omega))
   | (refine Qaq rfl 79 _ rfl (QCn 32 (W8 0)) ?hb ?_;(case hb=>kernel_rfl))
   | (refine Qa5 (bs:=QCn 32 0) rfl rfl _ _ rfl hb02 rfl (by kernel_rfl) rfl rfl ?_;intro w9 hb9 ho9)
   | fail)
  exact bodyPost_ret (Qae rfl _ _ _ _ _ _ hb9 rfl Tryz.underlying79 rfl (by rw[QCt,QCJ];exact Qbn)) rfl ⟨by rw[hMB.out,hME.out];rfl,L02.only ho9 (by omega)⟩
end Go.Proofs.YtdkpcdgckgaklaaGreat
namespace Go.Proofs.YtdkpcdgckgaklaaGreat
open Go.RowKit
section
variable {α:Type}
theorem QcK {F:α→List Value} {sz:Nat} (hF:∀x,(F x).length=sz):∀xs:List α,(xs.flatMap F).length=xs.length*sz
 | []=>by simp
 | x :: xs=>by rw[QDi,QCB,hF,QcK hF xs,QDj,QEA];omega
theorem Qfg {F:α→List Value} {sz:Nat} (hF:∀x,(F x).length=sz) (d:α) {i:Nat} {v:Value}:∀(xs:List α) (j:Nat),j<xs.length→(F (xs.getD j d))[i]?=some v→(xs.flatMap F)[j*sz+i]?=some v
 | [],j,hj,_=>by simp at hj
 | x :: xs,0,_,hv=>by
   have hv':(F x)[i]?=some v:=by simpa using hv
   have hi:i<(F x).length:=(QCK.1 hv').1
   rw[QDi,Nat.zero_mul,QCI,QCD hi]
   exact hv'
 | x :: xs,j+1,hj,hv=>by
   rw[QDi,QCF (by rw[hF,QEA];omega),hF]
   have:=Qfg hF d (i:=i) xs j (by simpa using hj) (by simpa using hv)
   rw[show (j+1)*sz+i-sz=j*sz+i by rw[QEA];omega]
   exact this
theorem QuW {F:α→List Value} {sz:Nat} (hF:∀x,(F x).length=sz) (d:α) (h0:0<sz) {q:Nat} {v:Value} {xs:List α} (h:(xs.flatMap F)[q]?=some v):q/sz<xs.length∧(F (xs.getD (q/sz) d))[q%sz]?=some v:=by
 have hq:q<xs.length*sz:=by
  have:=(QCK.1 h).1
  rwa [QcK hF]at this
 have hj:q/sz<xs.length:=(Nat.div_lt_iff_lt_mul h0).2 hq
 refine⟨hj,?_⟩
 have hr:q%sz<(F (xs.getD (q/sz) d)).length:=by rw[hF];exact QCU _ h0
 have e:=Qfg hF d xs (q/sz) hj (QCv hr)
 rw[show q/sz*sz+q%sz=q by rw[QDK];exact QDx q sz,h]at e
 rw[QCv hr,←Option.some.inj e]
theorem QkZ {F:α→List Value} {sz:Nat} (hF:∀x,(F x).length=sz) (d:α) {off:Nat} {vs:List Value} {y:α}:∀(xs:List α) (j:Nat),j<xs.length→off+vs.length≤sz→F y=Qau (F (xs.getD j d)) off vs→Qau (xs.flatMap F) (j*sz+off) vs=(xs.set j y).flatMap F
 | [],j,hj,_,_=>by simp at hj
 | x :: xs,0,_,ho,hy=>by
   have hx:=hF x
   rw[QCy,QDi,QDi,hy,Nat.zero_mul,QCI]
   simp only[Qau,List.getD_cons_zero]
   rw[QDk (by omega),QDu (by omega)]
   simp only[QCL]
 | x :: xs,j+1,hj,ho,hy=>by
   have ih:=QkZ hF d (off:=off) (vs:=vs) (y:=y) xs j (by simpa using hj) ho (by simpa using hy)
   rw[QCz,QDi,QDi,←ih]
   have hx:=hF x
   simp only[Qau]
   rw[List.take_append,QEh,QCE (by rw[hx,QEA];omega),List.drop_eq_nil_of_le (by rw[hx,QEA];omega),hx,show (j+1)*sz+off-sz=j*sz+off by rw[QEA];omega,show (j+1)*sz+off+vs.length-sz=j*sz+off+vs.length by rw[QEA];omega]
   simp only[QCs,QCL]
def RdF (F:α→List Value) (sz:Nat) (d:α) (w:World) (A:Option Addr) (n:Nat) (xs:List α):Prop:=
 xs.length=n∧(0<n→∃b o,A=some ⟨b,o,none⟩∧b<w.heap.size∧∀j i v,j<n→(F (xs.getD j d))[i]?=some v→w.cell? ⟨b,o+j*sz+i,none⟩=some v)
variable {F:α→List Value} {sz:Nat} {d:α} {w w':World} {A:Option Addr} {n:Nat} {xs:List α}
theorem RdF.later (h:RdF F sz d w A n xs) (hl:Later w w'):RdF F sz d w' A n xs:=by
 refine⟨h.1,fun hn=>?_⟩
 obtain⟨b,o,hA,hb,hc⟩:=h.2 hn
 exact⟨b,o,hA,QCM hb hl.size,fun j i v hj hv=>(hl.below.cell (p:=⟨b,o+j*sz+i,none⟩) hb).trans (hc j i v hj hv)⟩
theorem QdD (w:World):RdF F sz d w none 0 []:=⟨rfl,fun h=>absurd h (by omega)⟩
theorem RdF.at_ (h:RdF F sz d w A n xs) {k:Nat} (hk:k<n):
 ∃b o,A=some ⟨b,o,none⟩∧b<w.heap.size∧∀i v,(F (xs.getD k d))[i]?=some v→w.cell? ⟨b,o+k*sz+i,none⟩=some v:=by
 obtain⟨b,o,hA,hb,hc⟩:=h.2 (by omega)
 exact⟨b,o,hA,hb,fun i v hv=>hc k i v hk hv⟩
theorem RdF.cells (hF:∀x,(F x).length=sz) (h0:0<sz) {ad:Addr} (h:RdF F sz d w (some ad) n xs):∀q v,(xs.flatMap F)[q]?=some v→w.cell? (ad.add q)=some v:=by
 intro q v hv
 obtain⟨hj,hi⟩:=QuW hF d h0 hv
 rw[h.1]at hj
 obtain⟨b,o,hA,_,hc⟩:=h.2 (QDN (QEk _) hj)
 obtain rfl:ad=⟨b,o,none⟩:=by simpa using hA
 rw[Qdl]
 have:=hc _ _ _ hj hi
 rwa [Nat.add_assoc,show q/sz*sz+q%sz=q by rw[QDK];exact QDx q sz]at this
theorem Qc5 (hF:∀x,(F x).length=sz) {base c:Nat} {e:TypeId} (h:w.ownsRow base e sz (.slice A n c) n (xs.flatMap F)) (hn:xs.length=n):RdF F sz d w A n xs:=by
 refine⟨hn,fun h0=>?_⟩
 rcases h.2 with ⟨_,hz⟩|⟨g,cap,cur,hvv,hb,hh,hnc,hm,hs,ht⟩
 ·omega
 ·cases hvv
  refine⟨g,0,rfl,(h.lt g rfl).2,fun j i v hj hv=>?_⟩
  have hg:=h.cells (g:=g) rfl (j*sz+i) v (Qfg hF d xs j (by omega) hv)
  rw[Qdl]at hg
  rw[QCI]at hg ⊢
  exact hg
theorem QeP (hF:∀x,(F x).length=sz) {g:Nat} {t:TypeId} (h:Blk w g t (xs.flatMap F)) (hn:xs.length=n):RdF F sz d w (some ⟨g,0,none⟩) n xs:=by
 refine⟨hn,fun _=>⟨g,0,rfl,h.lt,fun j i v hj hv=>?_⟩⟩
 rw[QCI]
 exact h.cellD _ (Qfg hF d xs j (by omega) hv)
theorem Qg6 {base:Nat} {e:TypeId} {v:Value} {vs:List Value} (h:w.ownsRow base e sz v n vs):∃A c,v= .slice A n c∧n≤c:=by
 rcases h.2 with ⟨rfl,rfl⟩|⟨g,cap,cur,rfl,_,_,hnc,_⟩
 ·exact⟨none,0,rfl,QCx _⟩
 ·exact⟨_,_,rfl,hnc⟩
theorem QaC {base:Nat} {e:TypeId} {v:Value} {vs:List Value} (h:w.ownsRow base e sz v n vs) (hl:Later w w'):w'.ownsRow base e sz v n vs:=
 h.kept (row:=none) ⟨hl.below.os,hl.below.tape,hl.below.output,hl.size,fun k hk _=>hl.below.block k hk⟩ (by cases v.ownBlock<;>simp)
end
section
variable {P:Program} {ops:Array Oper} {rest:List Oper} {o:Oper} {a:Act} {w:World} {Q:Exit→Act→World→Prop} {α:Type} {F:α→List Value} {sz:Nat} {d:α}
theorem QaW (hF:∀x,(F x).length=sz) (hF1:∀x,∀u∈F x,u.oneCell'=true) (h0:0<sz) (hgd:o.guard=none) (s x:Operand) (t:TypeId) (ho:o.op= .call { callee:=.builtin .append,args:= #[s,x],argTypes:= #[t,t] })
 (e:TypeId) (z:Value) (bytes:Nat) (ht:P.underlying t=some (.slice e)) (hinfo:(P.info? e).map (fun i=>(i.zero,i.size,i.bytes))=some (some z,sz,bytes)) (hzs:z.cells.size=sz)
 (w0:World) (v:Value) (n:Nat) (vs:List Value) (hown:w.ownsRow w0.heap.size e sz v n vs) (hl:Later w0 w)
 (A:Option Addr) (m c:Nat) (xs:List α) (hr:RdF F sz d w A m xs) (hs:a.eval s=v) (hx:a.eval x= .slice A m c) (hsz:(n+m)*bytes≤140737488355328) (hby:0<bytes)
 (h:∀A' c' w',w'.ownsRow w0.heap.size e sz (.slice A' (n+m) c') (n+m) (vs++xs.flatMap F)→Later w0 w'→w.grownBy w' v.ownBlock→wpList P ops Q rest (a.put o.dst (.slice A' (n+m) c')) w'):
 wpList P ops Q (o :: rest) a w:=by
 obtain⟨i,hi,hz,hsize,hbytes⟩:=info_parts hinfo
 have hnm:n+m≤140737488355328:=QC4 (QD3 _ hby) hsz
 have hmax:n+m≤maxLen:=by unfold maxLen;omega
 have hfin:∀v' w',(Builtin.append_ #[t,t] o.type #[v,.slice A m c]).run P w= .ok v' w'→w'.ownsRow w0.heap.size e sz v' (n+m) (vs++xs.flatMap F)→w.grownBy w' v.ownBlock→wpList P ops Q (o :: rest) a w:=by
  intro v' w' hrun hown' hg
  refine wpList_plain hgd fun K hK=>?_
  unfold Oper.wp execOp
  simp only[ho,resolve,invoke,builtin,Sem.run_bind,Sem.run_pure,Result.andThen_ok,QCA,QCR,QCC,hs,hx,hrun]
  have hlat:Later w0 w':=hl.grownBy hg (fun k hk=>(hown.lt k hk).1)
  obtain⟨A',c',rfl,_⟩:=Qg6 hown'
  exact hK _ _ (h A' c' w' hown' hlat hg)
 have hlen:(xs.flatMap F).length=m*sz:=by rw[QcK hF,hr.1]
 cases A with
 | some ad=>
   have h1:∀u∈xs.flatMap F,u.oneCell'=true:=by
    intro u hu
    obtain⟨x,_,hx⟩:=List.mem_flatMap.1 hu
    exact hF1 x u hx
   obtain⟨v',w',hrun,h2,h3,_⟩:=run_append_own (P:=P) w w0.heap.size t o.type e i z sz bytes ht hi hz hsize hbytes hzs h0 v n vs hown ad m c _ hlen (hr.cells hF h0) h1 hmax hsz hl.size
   exact hfin v' w' hrun h2 h3
 | none=>
   have hm:m=0:=by
    rcases QD6 m with h0|h0
    ·exact h0
    ·obtain⟨b,off,hA,_⟩:=hr.2 h0
     cases hA
   subst hm
   have hn:xs=[]:=QC0 hr.1
   subst hn
   have hrun:(Builtin.append_ #[t,t] o.type #[v,.slice none 0 c]).run P w= .ok v w:=by
    rcases hown.2 with ⟨rfl,rfl⟩|⟨g,cap,cur,rfl,_,_,hnc,_⟩
    ·simp[Builtin.append_,run_underlying ht,sizeOf,typeInfo,hi,Builtin.lenOf,Builtin.firstCells]
    ·simp[Builtin.append_,run_underlying ht,sizeOf,typeInfo,hi,Builtin.lenOf,Builtin.firstCells,hnc,storeCells]
   exact hfin v w hrun (by simpa using hown) (World.grownBy.refl w _)
end
section
variable {P:Program}
theorem QpY {t e:TypeId} {sz:Nat} {z v:Value} {vs:List Value} (ht:P.underlying t=some (.slice e)) (hz:(P.info? e).map (fun i=>(i.zero,i.size))=some (some z,sz)) (hs0:0<sz) (hsm:sz≤65536) (hv:v.cells=vs.toArray) (hvl:vs.length=sz) (w:World):
 (Instr.buildSlice t 1 #[(0,v)]).run P w= .ok (.slice (some ⟨w.heap.size,0,none⟩) 1 1) (w.alloc (.cells vs.toArray e)):=by
 cases hi:P.info? e with
 | none=>simp[hi]at hz
 | some i=>
   simp only[hi,QD7,Option.some.injEq,Prod.mk.injEq]at hz
   obtain⟨h1,h2⟩:=hz
   have hso:(sizeOf e).run P w= .ok sz w:=by simp[sizeOf,typeInfo,hi,h2]
   have hzv:(zeroValue e).run P w= .ok z w:=by simp[zeroValue,typeInfo,hi,h1]
   have hl:((Array.range (1*sz)).map fun x=>z.cells[x%z.cells.size]!)=((Array.range (1*sz)).map fun x=>z.cells[x%z.cells.size]!).toList.toArray:=rfl
   have hll:((Array.range (1*sz)).map fun x=>z.cells[x%z.cells.size]!).toList.length=sz:=by simp
   have hf:Instr.fill (fun i=>some (i*sz,sz)) ((Array.range (1*sz)).map fun x=>z.cells[x%z.cells.size]!) [(0,v)]=some vs.toArray:=by
    rw[hl]
    rw[QaS (vs:=vs) (off:=0) hv (by rw[hvl,Nat.zero_mul]) (by rw[hll];omega),QbM,Qao _ _ (by rw[hll,hvl])]
   unfold Instr.buildSlice
   simp only[Sem.run_bind,run_underlying ht,Result.andThen_ok,hso,Nat.one_mul]
   rw[if_neg (by omega),if_neg (by omega)]
   simp only[Nat.one_mul]at hf
   simp only[Sem.run_bind,hzv,Result.andThen_ok,Sem.run_pure,hf]
   simp[newRow]
end
section
variable {P:Program} {ops:Array Oper} {rest:List Oper} {o:Oper} {a:Act} {w:World} {Q:Exit→Act→World→Prop}
end
def RdK (sz:Nat) (w:World) (A:Option Addr) (n:Nat) (xs:List (List UInt8)):Prop:=
 xs.length=n∧(0<n→∃b o,A=some ⟨b,o,none⟩∧b<w.heap.size∧∀j i v,j<n→((xs.getD j []).map W8)[i]?=some v→w.cell? ⟨b,o+j*sz+i,none⟩=some v)
theorem RdK.later {sz:Nat} {w w':World} {A:Option Addr} {n:Nat} {xs:List (List UInt8)} (h:RdK sz w A n xs) (hl:Later w w'):RdK sz w' A n xs:=by
 refine⟨h.1,fun hn=>?_⟩
 obtain⟨b,o,hA,hb,hc⟩:=h.2 hn
 exact⟨b,o,hA,QCM hb hl.size,fun j i v hj hv=>(hl.below.cell (p:=⟨b,o+j*sz+i,none⟩) hb).trans (hc j i v hj hv)⟩
theorem RdK.at_ {sz:Nat} {w:World} {A:Option Addr} {n:Nat} {xs:List (List UInt8)} (h:RdK sz w A n xs) {k:Nat} (hk:k<n):
 ∃b o,A=some ⟨b,o,none⟩∧b<w.heap.size∧∀j v,((xs.getD k []).map W8)[j]?=some v→w.cell? ⟨b,o+k*sz+j,none⟩=some v:=by
 obtain⟨b,o,hA,hb,hc⟩:=h.2 (by omega)
 exact⟨b,o,hA,hb,fun j v hv=>hc k j v hk hv⟩
theorem RdK.sub {sz:Nat} {w:World} {A:Option Addr} {n:Nat} {xs:List (List UInt8)} (h:RdK sz w A n xs) {k:Nat} (hk:k<n):
 ∃b o,A=some ⟨b,o,none⟩∧b<w.heap.size∧∀(w':World),Later w w'→∀(off m:Nat) (r:List UInt8),subB (xs.getD k []) off m=r→∀j v,(r.map W8)[j]?=some v→w'.cell? ⟨b,o+k*sz+off+j,none⟩=some v:=by
 obtain⟨b,o,hA,hb,hc⟩:=h.2 (by omega)
 refine⟨b,o,hA,hb,fun w' hl off m r hr j v hv=>?_⟩
 rw[QCH,Option.map_eq_some_iff]at hv
 obtain⟨x,hx,rfl⟩:=hv
 rw[←hr]at hx
 refine (hl.below.cell (p:=⟨b,o+k*sz+off+j,none⟩) hb).trans ?_
 have:=hc k (off+j) (W8 x) hk (by rw[QCH,QkM hx];rfl)
 rwa [←Nat.add_assoc]at this
theorem QfH {w w':World} {base g sz:Nat} {e t:TypeId} {v:Value} {n:Nat} {vs l:List Value} (hb:Blk w g t l) (h:w.ownsRow base e sz v n vs) (hne:t≠e) (hg:w.grownBy w' v.ownBlock):Blk w' g t l:=by
 refine (hg.block g hb.lt ?_).trans hb
 rcases h.2 with ⟨rfl,_⟩|⟨g2,c2,cur2,rfl,_,hh2,_⟩
 ·simp[Value.ownBlock]
 ·intro he
  simp only[Value.ownBlock,Option.some.injEq]at he
  subst he
  exact hb.ne_type (l':=cur2.toList) (t':=e) hh2 hne rfl
theorem Qar {w w':World} {base k sz:Nat} {e t:TypeId} {v:Value} {n:Nat} {vs l:List Value} (h:w.ownsRow base e sz v n vs) (hb:Blk w k t l) (hne:t≠e) (ho:Only k w w'):w'.ownsRow base e sz v n vs:=by
 refine h.kept ho ?_
 rcases h.2 with ⟨rfl,_⟩|⟨g2,c2,cur2,rfl,_,hh2,_⟩
 ·exact .inl rfl
 ·refine .inr fun he=>?_
  simp only[Value.ownBlock,Option.some.injEq]at he
  subst he
  exact hb.ne_type (l':=cur2.toList) (t':=e) hh2 hne rfl
theorem QbT {w w':World} {b1 b2 s1 s2:Nat} {e1 e2:TypeId} {v1 v2:Value} {n1 n2:Nat} {x1 x2:List Value} (h1:w.ownsRow b1 e1 s1 v1 n1 x1) (h2:w.ownsRow b2 e2 s2 v2 n2 x2) (hne:e1≠e2) (hg:w.grownBy w' v2.ownBlock):
 w'.ownsRow b1 e1 s1 v1 n1 x1:=by
 refine h1.kept hg ?_
 rcases h1.2 with ⟨rfl,_⟩|⟨g1,c1,cur1,rfl,_,hh1,_⟩
 ·exact .inl rfl
 ·right
  rcases h2.2 with ⟨rfl,_⟩|⟨g2,c2,cur2,rfl,_,hh2,_⟩
  ·simp[Value.ownBlock]
  ·intro hb
   simp only[Value.ownBlock,Option.some.injEq]at hb
   subst hb
   rw[hh1]at hh2
   injection hh2 with hh2
   injection hh2 with _ h
   exact hne h
theorem Bag.grown {w wk v':World} {ls:List (Nat×TypeId×List Value)} {base sz:Nat} {e:TypeId} {v:Value} {n:Nat} {vs:List Value} (h:Bag w wk ls) (hown:wk.ownsRow base e sz v n vs) (hne:∀p∈ls,p.2.1≠e) (hb:w.heap.size≤base) (hg:wk.grownBy v' v.ownBlock):Bag w v' ls:=
 ⟨h.lat.grownBy hg (fun k hk=>QC4 hb (hown.lt k hk).1),fun p hp=>QfH (h.blk p hp) hown (hne p hp) hg,h.low,h.nd⟩
end Go.Proofs.YtdkpcdgckgaklaaGreat
namespace Go.Proofs.YtdkpcdgckgaklaaGreat
open Go.RowKit
open Go.BigFrame
theorem QkN {w:World} {base sz n c:Nat} {e:TypeId} {A:Option Addr} {vs:List Value} (h:w.ownsRow base e sz (.slice A n c) n vs) (hn:0<n):
 ∃g rest,A=some ⟨g,0,none⟩∧base≤g∧Blk w g e (vs++rest)∧n≤c∧c≤maxLen∧(vs++rest).length=c*sz:=by
 rcases h.2 with ⟨hv,h0⟩|⟨g,cap,cur,hv,hb,hh,hnc,hm,hs,ht⟩
 ·omega
 ·cases hv
  have e:vs++cur.toList.drop (n*sz)=cur.toList:=by rw[←ht,QC3]
  refine⟨g,cur.toList.drop (n*sz),rfl,hb,?_,hnc,hm,?_⟩
  ·rw[e]
   exact hh
  ·rw[e,Array.length_toList,hs]
theorem QqI {w:World} {base g sz n c:Nat} {e:TypeId} {vs rest:List Value} (h:Blk w g e (vs++rest)) (hb:base≤g) (hl:vs.length=n*sz) (hc:(vs++rest).length=c*sz) (hn:n≤c) (hm:c≤maxLen):w.ownsRow base e sz (.slice (some ⟨g,0,none⟩) n c) n vs:=
 ⟨hl,.inr ⟨g,c,(vs++rest).toArray,rfl,hb,h,hn,hm,by simp only[List.size_toArray];exact hc,by show (vs++rest).take _=vs;rw[←hl,List.take_left]⟩⟩
theorem QlV (l r vs:List Value) (o:Nat) (h:o+vs.length≤l.length):Qau (l++r) o vs=Qau l o vs++r:=by
 rw[Qau,Qau,QDk (by omega),QDu (by omega),QCL,QCL,QCL]
section
variable {P:Program} {ops:Array Oper} {rest:List Oper} {o:Oper} {a:Act} {w:World} {Q:Exit→Act→World→Prop} {α:Type} {F:α→List Value} {sz:Nat}
theorem Qeu (hF:∀x,(F x).length=sz) (hF1:∀x,∀u∈F x,u.oneCell'=true) (d:α) (hgd:o.guard=none) (hd:o.dst=none) (ty:TypeId) (x y:Operand) (ho:o.op= .store ty x y) {base g n c:Nat} {e:TypeId} {xs:List α}
 (hown:w.ownsRow base e sz (.slice (some ⟨g,0,none⟩) n c) n (xs.flatMap F)) (hn:xs.length=n) (j:Nat) (hj:j<n) (v:α) (hx:a.eval x= .pointer (some ⟨g,j*sz,none⟩)) (hy:a.eval y= .agg (F v).toArray) (hi:(P.info? ty).map (·.size)=some sz)
 (h:∀w',w'.ownsRow base e sz (.slice (some ⟨g,0,none⟩) n c) n ((xs.set j v).flatMap F)→Only g w w'→wpList P ops Q rest a w'):wpList P ops Q (o :: rest) a w:=by
 obtain⟨g',r,hg,hb,hB,hnc,hm,hl⟩:=QkN hown (by omega)
 obtain rfl:g=g':=by simpa using hg
 have hfl:=QcK hF xs
 rw[hn]at hfl
 have hjn:j*sz+sz≤n*sz:=by
  rw[←Nat.succ_mul]
  exact Nat.mul_le_mul_right _ hj
 refine Qaj hgd hd ty x y ho g (j*sz) e _ (F v) hB hx hy (by rw[hF];exact hi) (by rw[QCB,hF];omega) (hF1 v) ?_
 intro w' hb' ho'
 have e1:Qau (xs.flatMap F) (j*sz) (F v)=(xs.set j v).flatMap F:=by
  have:=QkZ hF d (off:=0) (vs:=F v) (y:=v) xs j (by omega) (by rw[hF];omega) (by rw[Qao _ _ (by rw[hF,hF])])
  rwa [QDP]at this
 have e2:((xs.set j v).flatMap F).length=n*sz:=by rw[QcK hF,QCZ,hn]
 rw[QlV _ _ _ _ (by rw[hF];omega),e1]at hb'
 exact h w' (QqI hb' hb e2 (by rw[QCB]at hl ⊢;omega) hnc hm) ho'
end
theorem Qkx {P:Program} {C:World→Prop} {a:Act} {o:Oper} {K:Act→Prop} {t:TypeId} (x i:Operand) (ho:o.op= .indexAddr t x i) (v:Value) (hv:∀w,(Instr.indexAt t (a.eval x) (a.eval i)).run P w= .ok v w)
 (h:K (a.put o.dst v)):o.quiet P a C K:=
 ⟨v,fun w hw=>by
   unfold Oper.quietAt execOp
   simp only[ho,Sem.run_bind,hv w,Result.andThen_ok]
   exact⟨rfl,rfl⟩,h⟩
theorem Qir {P:Program} {o:Oper} {a:Act} {J:Act→Prop} (ty:TypeId) (x:Operand) (ho:o.op= .load ty x) {w0:World} {bad:List Nat} {g:Nat} {t:TypeId} {l:List Value} (off:Nat) (vs:List Value) (hb:Blk w0 g t l) (hn:∀b∈bad,g≠b) (hx:a.eval x= .pointer (some ⟨g,off,none⟩))
 (hv:∀j v,vs[j]?=some v→l[off+j]?=some v) (d:TypeDesc) (hu:P.underlying ty=some d) (hd:QbH d=true) (hi:(P.info? ty).map (·.size)=some vs.length) (h:J (a.put o.dst (.agg vs.toArray))):o.quiet P a (Spared w0 bad) J:=
 QaN _ x ho g off vs (fun _ hw j v hv'=>Blk.cellD (hw.blk hb hn) _ (hv j v hv')) hx d hu hd hi h
theorem Qd6 {P:Program} {C:World→Prop} {a:Act} {o:Oper} {K:Act→Prop} (x:Operand) (v:Value) (ho:o.op= .move x) (hv:a.eval x=v) (h:K (a.put o.dst v)):o.quiet P a C K:=
 quiet_move x ho (hv ▸ h)
end Go.Proofs.YtdkpcdgckgaklaaGreat
