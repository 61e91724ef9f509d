/-
  Lemmas for the last text of this claim (part 5 of 20).
-/
import Derived.BigQuiet
import Derived.BigRegion
import Derived.ChangeOld
import Derived.Deep.RegionWith
import Derived.DeepKeys4
import Derived.JoinedCond
import Derived.LaidMore
import Derived.Laws.CopyOwn
import Derived.Laws.Externs
import Derived.Laws.IdiomStrings
import Derived.Laws.Tables
import Derived.Lib.AppendStr
import Derived.Lib.AppendZerosOnto
import Derived.Lib.Mul64
import Derived.Lib.SlBytesConst
import Derived.LoopN
import Derived.Maps.OwnSet
import Derived.OpenShut
import Derived.OrdersHeld
import Derived.ProofKit
import Derived.Shelf.Spec.BitsCarry
import Derived.ShutString
import Derived.Test.YtcbdgnlcknllnaaGreatProg
import Derived.Test.YtcbdgnlcknllnaaGreatRows
import Derived.WalkKit
import Derived.WalkLawsBesides
import Derived.WalkSpells
import Derived.Test.YtcbdgnlcknllnaaGreatPB
import Derived.Test.YtcbdgnlcknllnaaGreatPC
import Derived.Test.YtcbdgnlcknllnaaGreatPD
open List renaming replicate → QFu, getElem?_cons_succ → QFv, getElem?_cons_zero → QFw, cons_append → QFy, nil_append → QFz, length_map → QFA, getElem?_eq_getElem → QFB, getD_eq_getElem?_getD → QFC, length_append → QFF, map_toArray → QFI, take_of_length_le → QFJ, getElem?_append_right → QFK, append_assoc → QFL, getElem?_map → QFN, mem_cons → QFP, map_nil → QFR, getElem?_append_left → QFS, getElem?_eq_some_iff → QFU, map_cons → QFW, length_take → QFY, map_append → QF2, range → QF6, take_append_drop → QF8, set_append_right → QF9, eq_nil_of_length_eq_zero → QGc, length_set → QGd, mem_map → QGf, getElem?_eq_none → QGm, length_cons → QGo, take_append_of_le_length → QGt, range_succ → QG4, flatMap_cons → QHm, nodup_cons → QHn, flatten_cons → QHu, replicate_succ → QHv, map_set → QHO
open Nat renaming le_refl → QFE, lt_of_lt_of_le → QFV, zero_add → QFX, mod_lt → QF1, le_trans → QGh, div_add_mod → QGB, mul_comm → QGF, lt_of_le_of_lt → QGZ, le_mul_of_pos_right → QG0, add_assoc → QHx, zero_mul → QHJ
open Option renaming toList_some → QFx, map_some → QHg
open UInt32 renaming ofNat → QF7
open UInt64 renaming ofInt → QGH
namespace Go.Proofs.YtcbdgnlcknllnaaGreat
open Go.RowKit
structure Bag (w wk:World) (ls:List (Nat×TypeId×List Value)):Prop where
 lat:Later w wk
 blk:∀p∈ls,Blk wk p.1 p.2.1 p.2.2
 low:∀p∈ls,w.heap.size≤p.1
 nd:(ls.map (·.1)).Nodup
section
variable {w wk v v1:World} {ls:List (Nat×TypeId×List Value)} {k:Nat} {t:TypeId} {l l':List Value}
theorem Bag.nth (h:Bag w wk ls) (i:Nat) (hi:ls[i]?=some (k,t,l)):Blk wk k t l:=h.blk (k,t,l) (List.mem_of_getElem? hi)
theorem Bag.at_low (h:Bag w wk ls) (i:Nat) (hi:ls[i]?=some (k,t,l)):w.heap.size≤k:=h.low (k,t,l) (List.mem_of_getElem? hi)
theorem Bag.later (h:Bag w wk ls) (j:Later wk v):Bag w v ls:=⟨h.lat.trans j,fun p hp=>(h.blk p hp).later j,h.low,h.nd⟩
theorem Bag.drew (h:Bag w wk ls):Bag w wk.drew ls:=h.later (Qab _)
theorem Bag.none (w:World):Bag w w []:=⟨Later.refl w,by simp,by simp,by simp⟩
theorem Bag.add (h:Bag w wk ls) (j:Later wk v) (hk:∀p∈ls,k≠p.1) (hl:w.heap.size≤k) (hb:Blk v k t l):Bag w v ((k,t,l) :: ls):=by
 have h1:=h.later j
 refine⟨h1.lat,?_,?_,?_⟩
 ·intro p hp
  rcases QFP.1 hp with rfl|hp
  ·exact hb
  ·exact h1.blk p hp
 ·intro p hp
  rcases QFP.1 hp with rfl|hp
  ·exact hl
  ·exact h1.low p hp
 ·rw[QFW,QHn]
  refine⟨fun hm=>?_,h1.nd⟩
  obtain⟨p,hp,e⟩:=QGf.1 hm
  exact hk p hp e.symm
theorem Bag.write (h:Bag w wk ls) (i:Nat) (hi:ls[i]?=some (k,t,l)) (o:Only k wk v) (hb:Blk v k t l'):Bag w v (ls.set i (k,t,l')):=by
 refine⟨h.lat.only o (h.at_low i hi),?_,?_,?_⟩
 ·intro p hp
  obtain⟨j,hj⟩:=List.getElem?_of_mem hp
  rw[List.getElem?_set]at hj
  split at hj
  ·split at hj
   ·cases hj
    exact hb
   ·cases hj
  ·rename_i hne
   refine (h.blk p (List.mem_of_getElem? hj)).only o ?_
   intro e
   have h1:(ls.map (·.1))[i]?=some k:=by rw[QFN,hi];rfl
   have h2:(ls.map (·.1))[j]?=some k:=by rw[QFN,hj,←e];rfl
   have hlt:i<(ls.map (·.1)).length:=(QFU.1 h1).1
   exact hne ((List.getElem?_inj hlt h.nd).1 (h1.trans h2.symm))
 ·intro p hp
  rcases List.mem_or_eq_of_mem_set hp with hp|rfl
  ·exact h.low p hp
  ·exact h.at_low i hi
 ·have:(ls.set i (k,t,l')).map (·.1)=ls.map (·.1):=by
   rw[QHO]
   apply List.ext_getElem?
   intro j
   rw[List.getElem?_set]
   split
   ·rename_i e
    subst e
    split
    ·rw[QFN,hi];rfl
    ·rename_i hlt
     rw[QGm (by omega)]
   ·rfl
  rw[this]
  exact h.nd
theorem Bag.push (h:Bag w wk ls) (j:Later wk v) (hk:wk.heap.size≤k) (o:Only k v v1) (hb:Blk v1 k t l):Bag w v1 ((k,t,l) :: ls):=by
 have h0:∀p∈ls,k≠p.1:=fun p hp e=>by have:=(h.blk p hp).lt;omega
 have hw:w.heap.size≤k:=by have:=h.lat.size;omega
 have h1:=h.later j
 refine⟨h1.lat.only o hw,?_,?_,?_⟩
 ·intro p hp
  rcases QFP.1 hp with rfl|hp
  ·exact hb
  ·exact (h1.blk p hp).only o (fun e=>h0 p hp e.symm)
 ·intro p hp
  rcases QFP.1 hp with rfl|hp
  ·exact hw
  ·exact h1.low p hp
 ·rw[QFW,QHn]
  refine⟨fun hm=>?_,h1.nd⟩
  obtain⟨p,hp,e⟩:=QGf.1 hm
  exact h0 p hp e.symm
theorem Bag.ne {p q:Nat×TypeId×List Value} (h:Bag w wk ls) (i j:Nat) (hi:ls[i]?=some p) (hj:ls[j]?=some q) (hij:i≠j):p.1≠q.1:=by
 intro e
 have h1:(ls.map (·.1))[i]?=some p.1:=by rw[QFN,hi];rfl
 have h2:(ls.map (·.1))[j]?=some p.1:=by rw[QFN,hj,e];rfl
 have hlt:i<(ls.map (·.1)).length:=(QFU.1 h1).1
 exact hij ((List.getElem?_inj hlt h.nd).1 (h1.trans h2.symm))
theorem Bag.drop (h:Bag w wk ls) (n:Nat):Bag w wk (ls.drop n):=
 ⟨h.lat,fun p hp=>h.blk p (List.mem_of_mem_drop hp),fun p hp=>h.low p (List.mem_of_mem_drop hp),by rw[List.map_drop];exact (List.drop_sublist n _).nodup h.nd⟩
end
theorem Qbb (w:World) (t:TypeId) (l:List Value):Bag w (w.alloc (.cells l.toArray t)) [(w.heap.size,t,l)]:=
 ⟨Qaa _ _,by intro p hp;simp at hp;subst hp;exact Blk.new w t l,by simp,by simp⟩
section
variable {α:Type}
theorem QeA {F:α→List Value} {sz:Nat} (hF:∀x,(F x).length=sz):∀xs:List α,(xs.flatMap F).length=xs.length*sz
 | []=>by simp
 | x :: xs=>by rw[QHm,QFF,hF,QeA hF xs,QGo,Nat.add_mul];omega
theorem Qht {F:α→List Value} {sz:Nat} (hF:∀x,(F x).length=sz) (d:α) {i:Nat} {v:Value}:∀(xs:List α) (j:Nat),j<xs.length→(F (xs.getD j d))[i]?=some v→(xs.flatMap F)[j*sz+i]?=some v
 | [],j,hj,_=>by simp at hj
 | x :: xs,0,_,hv=>by
   have hv':(F x)[i]?=some v:=by simpa using hv
   have hi:i<(F x).length:=(QFU.1 hv').1
   rw[QHm,QHJ,QFX,QFS hi]
   exact hv'
 | x :: xs,j+1,hj,hv=>by
   rw[QHm,QFK (by rw[hF,Nat.add_mul];omega),hF]
   have:=Qht hF d (i:=i) xs j (by simpa using hj) (by simpa using hv)
   rw[show (j+1)*sz+i-sz=j*sz+i by rw[Nat.add_mul];omega]
   exact this
theorem Qxp {F:α→List Value} {sz:Nat} (hF:∀x,(F x).length=sz) (d:α) (h0:0<sz) {q:Nat} {v:Value} {xs:List α} (h:(xs.flatMap F)[q]?=some v):q/sz<xs.length∧(F (xs.getD (q/sz) d))[q%sz]?=some v:=by
 have hq:q<xs.length*sz:=by
  have:=(QFU.1 h).1
  rwa [QeA hF]at this
 have hj:q/sz<xs.length:=(Nat.div_lt_iff_lt_mul h0).2 hq
 refine⟨hj,?_⟩
 have hr:q%sz<(F (xs.getD (q/sz) d)).length:=by rw[hF];exact QF1 _ h0
 have e:=Qht hF d xs (q/sz) hj (QFB hr)
 rw[show q/sz*sz+q%sz=q by rw[QGF];exact QGB q sz,h]at e
 rw[QFB hr,←Option.some.inj e]
def RdF (F:α→List Value) (sz:Nat) (d:α) (w:World) (A:Option Addr) (n:Nat) (xs:List α):Prop:=
 xs.length=n∧(0<n→∃b o,A=some ⟨b,o,none⟩∧b<w.heap.size∧∀j i v,j<n→(F (xs.getD j d))[i]?=some v→w.cell? ⟨b,o+j*sz+i,none⟩=some v)
variable {F:α→List Value} {sz:Nat} {d:α} {w w':World} {A:Option Addr} {n:Nat} {xs:List α}
theorem RdF.later (h:RdF F sz d w A n xs) (hl:Later w w'):RdF F sz d w' A n xs:=by
 refine⟨h.1,fun hn=>?_⟩
 obtain⟨b,o,hA,hb,hc⟩:=h.2 hn
 exact⟨b,o,hA,QFV hb hl.size,fun j i v hj hv=>(hl.below.cell (p:=⟨b,o+j*sz+i,none⟩) hb).trans (hc j i v hj hv)⟩
theorem QgZ (w:World):RdF F sz d w none 0 []:=⟨rfl,fun h=>absurd h (by omega)⟩
theorem RdF.at_ (h:RdF F sz d w A n xs) {k:Nat} (hk:k<n):
 ∃b o,A=some ⟨b,o,none⟩∧b<w.heap.size∧∀i v,(F (xs.getD k d))[i]?=some v→w.cell? ⟨b,o+k*sz+i,none⟩=some v:=by
 obtain⟨b,o,hA,hb,hc⟩:=h.2 (by omega)
 exact⟨b,o,hA,hb,fun i v hv=>hc k i v hk hv⟩
theorem RdF.cells (hF:∀x,(F x).length=sz) (h0:0<sz) {ad:Addr} (h:RdF F sz d w (some ad) n xs):∀q v,(xs.flatMap F)[q]?=some v→w.cell? (ad.add q)=some v:=by
 intro q v hv
 obtain⟨hj,hi⟩:=Qxp hF d h0 hv
 rw[h.1]at hj
 obtain⟨b,o,hA,_,hc⟩:=h.2 (QGZ (Nat.zero_le _) hj)
 obtain rfl:ad=⟨b,o,none⟩:=by simpa using hA
 rw[Qda]
 have:=hc _ _ _ hj hi
 rwa [QHx,show q/sz*sz+q%sz=q by rw[QGF];exact QGB q sz]at this
theorem QgS (hF:∀x,(F x).length=sz) {base c:Nat} {e:TypeId} (h:w.ownsRow base e sz (.slice A n c) n (xs.flatMap F)) (hn:xs.length=n):RdF F sz d w A n xs:=by
 refine⟨hn,fun h0=>?_⟩
 rcases h.2 with ⟨_,hz⟩|⟨g,cap,cur,hvv,hb,hh,hnc,hm,hs,ht⟩
 ·omega
 ·cases hvv
  refine⟨g,0,rfl,(h.lt g rfl).2,fun j i v hj hv=>?_⟩
  have hg:=h.cells (g:=g) rfl (j*sz+i) v (Qht hF d xs j (by omega) hv)
  rw[Qda]at hg
  rw[QFX]at hg ⊢
  exact hg
theorem QhN (hF:∀x,(F x).length=sz) {g:Nat} {t:TypeId} (h:Blk w g t (xs.flatMap F)) (hn:xs.length=n):RdF F sz d w (some ⟨g,0,none⟩) n xs:=by
 refine⟨hn,fun _=>⟨g,0,rfl,h.lt,fun j i v hj hv=>?_⟩⟩
 rw[QFX]
 exact h.cellD _ (Qht hF d xs j (by omega) hv)
theorem Qq7 {base:Nat} {e:TypeId} {v:Value} {vs:List Value} (h:w.ownsRow base e sz v n vs):∃A c,v= .slice A n c∧n≤c:=by
 rcases h.2 with ⟨rfl,rfl⟩|⟨g,cap,cur,rfl,_,_,hnc,_⟩
 ·exact⟨none,0,rfl,QFE _⟩
 ·exact⟨_,_,rfl,hnc⟩
theorem Qa7 {base:Nat} {e:TypeId} {v:Value} {vs:List Value} (h:w.ownsRow base e sz v n vs) (hl:Later w w'):w'.ownsRow base e sz v n vs:=
 h.kept (row:=none) ⟨hl.below.os,hl.below.tape,hl.below.output,hl.size,fun k hk _=>hl.below.block k hk⟩ (by cases v.ownBlock<;>simp)
end
section
variable {P:Program} {ops:Array Oper} {rest:List Oper} {o:Oper} {a:Act} {w:World} {Q:Exit→Act→World→Prop} {α:Type} {F:α→List Value} {sz:Nat} {d:α}
theorem Qcp (hF:∀x,(F x).length=sz) (hF1:∀x,∀u∈F x,u.oneCell'=true) (h0:0<sz) (hgd:o.guard=none) (s x:Operand) (t:TypeId) (ho:o.op= .call { callee:=.builtin .append,args:= #[s,x],argTypes:= #[t,t] })
 (e:TypeId) (z:Value) (bytes:Nat) (ht:P.underlying t=some (.slice e)) (hinfo:(P.info? e).map (fun i=>(i.zero,i.size,i.bytes))=some (some z,sz,bytes)) (hzs:z.cells.size=sz)
 (w0:World) (v:Value) (n:Nat) (vs:List Value) (hown:w.ownsRow w0.heap.size e sz v n vs) (hl:Later w0 w)
 (A:Option Addr) (m c:Nat) (xs:List α) (hr:RdF F sz d w A m xs) (hs:a.eval s=v) (hx:a.eval x= .slice A m c) (hsz:(n+m)*bytes≤140737488355328) (hby:0<bytes)
 (h:∀A' c' w',w'.ownsRow w0.heap.size e sz (.slice A' (n+m) c') (n+m) (vs++xs.flatMap F)→Later w0 w'→w.grownBy w' v.ownBlock→wpList P ops Q rest (a.put o.dst (.slice A' (n+m) c')) w'):
 wpList P ops Q (o :: rest) a w:=by
 obtain⟨i,hi,hz,hsize,hbytes⟩:=info_parts hinfo
 have hnm:n+m≤140737488355328:=QGh (QG0 _ hby) hsz
 have hmax:n+m≤maxLen:=by unfold maxLen;omega
 have hfin:∀v' w',(Builtin.append_ #[t,t] o.type #[v,.slice A m c]).run P w= .ok v' w'→w'.ownsRow w0.heap.size e sz v' (n+m) (vs++xs.flatMap F)→w.grownBy w' v.ownBlock→wpList P ops Q (o :: rest) a w:=by
  intro v' w' hrun hown' hg
  refine wpList_plain hgd fun K hK=>?_
  unfold Oper.wp execOp
  simp only[ho,resolve,invoke,builtin,Sem.run_bind,Sem.run_pure,Result.andThen_ok,QFI,QFW,QFR,hs,hx,hrun]
  have hlat:Later w0 w':=hl.grownBy hg (fun k hk=>(hown.lt k hk).1)
  obtain⟨A',c',rfl,_⟩:=Qq7 hown'
  exact hK _ _ (h A' c' w' hown' hlat hg)
 have hlen:(xs.flatMap F).length=m*sz:=by rw[QeA hF,hr.1]
 cases A with
 | some ad=>
   have h1:∀u∈xs.flatMap F,u.oneCell'=true:=by
    intro u hu
    obtain⟨x,_,hx⟩:=List.mem_flatMap.1 hu
    exact hF1 x u hx
   obtain⟨v',w',hrun,h2,h3,_⟩:=run_append_own (P:=P) w w0.heap.size t o.type e i z sz bytes ht hi hz hsize hbytes hzs h0 v n vs hown ad m c _ hlen (hr.cells hF h0) h1 hmax hsz hl.size
   exact hfin v' w' hrun h2 h3
 | none=>
   have hm:m=0:=by
    rcases Nat.eq_zero_or_pos m with h0|h0
    ·exact h0
    ·obtain⟨b,off,hA,_⟩:=hr.2 h0
     cases hA
   subst hm
   have hn:xs=[]:=QGc hr.1
   subst hn
   have hrun:(Builtin.append_ #[t,t] o.type #[v,.slice none 0 c]).run P w= .ok v w:=by
    rcases hown.2 with ⟨rfl,rfl⟩|⟨g,cap,cur,rfl,_,_,hnc,_⟩
    ·simp[Builtin.append_,run_underlying ht,sizeOf,typeInfo,hi,Builtin.lenOf,Builtin.firstCells]
    ·simp[Builtin.append_,run_underlying ht,sizeOf,typeInfo,hi,Builtin.lenOf,Builtin.firstCells,hnc,storeCells]
   exact hfin v w hrun (by simpa using hown) (World.grownBy.refl w _)
end
section
variable {P:Program}
theorem QkE {t e:TypeId} {sz:Nat} {z v:Value} {vs:List Value} (ht:P.underlying t=some (.slice e)) (hz:(P.info? e).map (fun i=>(i.zero,i.size))=some (some z,sz)) (hs0:0<sz) (hsm:sz≤65536) (hv:v.cells=vs.toArray) (hvl:vs.length=sz) (w:World):
 (Instr.buildSlice t 1 #[(0,v)]).run P w= .ok (.slice (some ⟨w.heap.size,0,none⟩) 1 1) (w.alloc (.cells vs.toArray e)):=by
 cases hi:P.info? e with
 | none=>simp[hi]at hz
 | some i=>
   simp only[hi,QHg,Option.some.injEq,Prod.mk.injEq]at hz
   obtain⟨h1,h2⟩:=hz
   have hso:(sizeOf e).run P w= .ok sz w:=by simp[sizeOf,typeInfo,hi,h2]
   have hzv:(zeroValue e).run P w= .ok z w:=by simp[zeroValue,typeInfo,hi,h1]
   have hl:((Array.range (1*sz)).map fun x=>z.cells[x%z.cells.size]!)=((Array.range (1*sz)).map fun x=>z.cells[x%z.cells.size]!).toList.toArray:=rfl
   have hll:((Array.range (1*sz)).map fun x=>z.cells[x%z.cells.size]!).toList.length=sz:=by simp
   have hf:Instr.fill (fun i=>some (i*sz,sz)) ((Array.range (1*sz)).map fun x=>z.cells[x%z.cells.size]!) [(0,v)]=some vs.toArray:=by
    rw[hl]
    rw[QaR (vs:=vs) (off:=0) hv (by rw[hvl,QHJ]) (by rw[hll];omega),Qb5,Qap _ _ (by rw[hll,hvl])]
   unfold Instr.buildSlice
   simp only[Sem.run_bind,run_underlying ht,Result.andThen_ok,hso,Nat.one_mul]
   rw[if_neg (by omega),if_neg (by omega)]
   simp only[Nat.one_mul]at hf
   simp only[Sem.run_bind,hzv,Result.andThen_ok,Sem.run_pure,hf]
   simp[newRow]
end
section
variable {P:Program} {ops:Array Oper} {rest:List Oper} {o:Oper} {a:Act} {w:World} {Q:Exit→Act→World→Prop}
theorem Qtm (hw:Region.wanted o (yielded ops a.tmps)=true) (t:TypeId) (x:Operand) (ho:o.op= .buildSlice t 1 #[(0,x)]) (e:TypeId) (sz:Nat) (z:Value) (bs:List UInt8) (ht:P.underlying t=some (.slice e)) (hz:(P.info? e).map (fun i=>(i.zero,i.size))=some (some z,sz)) (hs0:0<sz) (hsm:sz≤65536)
 (hbl:bs.length=sz) (hx:a.eval x= .agg (bs.map W8).toArray)
 (h:wpList P ops Q rest (a.put o.dst (.slice (some ⟨w.heap.size,0,none⟩) 1 1)) (w.alloc (.cells (bs.map W8).toArray e))):wpList P ops Q (o :: rest) a w:=
 BigFrame.wpList_want hw fun K hK=>by
  have hr:=QkE (v:=.agg (bs.map W8).toArray) ht hz hs0 hsm rfl (by rw[QFA,hbl]) w
  unfold Oper.wp
  simp only[execOp,ho,QFI,QFW,QFR,hx,Sem.run_bind,hr,Result.andThen_ok,Sem.run_pure]
  exact hK _ _ h
end
def RdK (sz:Nat) (w:World) (A:Option Addr) (n:Nat) (xs:List (List UInt8)):Prop:=
 xs.length=n∧(0<n→∃b o,A=some ⟨b,o,none⟩∧b<w.heap.size∧∀j i v,j<n→((xs.getD j []).map W8)[i]?=some v→w.cell? ⟨b,o+j*sz+i,none⟩=some v)
theorem RdK.later {sz:Nat} {w w':World} {A:Option Addr} {n:Nat} {xs:List (List UInt8)} (h:RdK sz w A n xs) (hl:Later w w'):RdK sz w' A n xs:=by
 refine⟨h.1,fun hn=>?_⟩
 obtain⟨b,o,hA,hb,hc⟩:=h.2 hn
 exact⟨b,o,hA,QFV hb hl.size,fun j i v hj hv=>(hl.below.cell (p:=⟨b,o+j*sz+i,none⟩) hb).trans (hc j i v hj hv)⟩
theorem Qnj {sz i:Nat} {v:UInt8}:∀(xs:List (List UInt8)) (j:Nat),(∀ x∈xs,x.length=sz)→j<xs.length→(xs.getD j [])[i]?=some v→xs.flatten[j*sz+i]?=some v
 | [],j,_,h,_=>by simp at h
 | x :: xs,j,hl,hj,hv=>by
   have hx:=hl x (by simp)
   cases j with
   | zero=>
     have hv':x[i]?=some v:=by simpa using hv
     have hi:i<x.length:=(QFU.1 hv').1
     rw[QHu,QHJ,QFX,QFS hi]
     exact hv'
   | succ j=>
     rw[QHu,QFK (by rw[hx,Nat.add_mul];omega),hx]
     have:=Qnj (sz:=sz) (i:=i) xs j (fun y hy=>hl y (by simp[hy])) (by simpa using hj) (by simpa using hv)
     rw[show (j+1)*sz+i-sz=j*sz+i by rw[Nat.add_mul];omega]
     exact this
theorem QzC {sz:Nat} {w:World} {base:Nat} {e:TypeId} {A:Option Addr} {n c:Nat} {xs:List (List UInt8)} (h:w.ownsRow base e sz (.slice A n c) n (xs.flatten.map W8)) (hn:xs.length=n) (hl:∀x∈xs,x.length=sz):RdK sz w A n xs:=by
 refine⟨hn,fun h0=>?_⟩
 rcases h.2 with ⟨_,hz⟩|⟨g,cap,cur,hvv,hb,hh,hnc,hm,hs,ht⟩
 ·omega
 ·cases hvv
  refine⟨g,0,rfl,(h.lt g rfl).2,fun j i v hj hv=>?_⟩
  rw[QFN,Option.map_eq_some_iff]at hv
  obtain⟨x,hx,rfl⟩:=hv
  have hg:=h.cells (g:=g) rfl (j*sz+i) (W8 x) (by rw[QFN,Qnj xs j hl (by omega) hx];rfl)
  rw[Qda]at hg
  rw[QFX]at hg ⊢
  exact hg
theorem RdK.at_ {sz:Nat} {w:World} {A:Option Addr} {n:Nat} {xs:List (List UInt8)} (h:RdK sz w A n xs) {k:Nat} (hk:k<n):
 ∃b o,A=some ⟨b,o,none⟩∧b<w.heap.size∧∀j v,((xs.getD k []).map W8)[j]?=some v→w.cell? ⟨b,o+k*sz+j,none⟩=some v:=by
 obtain⟨b,o,hA,hb,hc⟩:=h.2 (by omega)
 exact⟨b,o,hA,hb,fun j v hv=>hc k j v hk hv⟩
theorem RdK.sub {sz:Nat} {w:World} {A:Option Addr} {n:Nat} {xs:List (List UInt8)} (h:RdK sz w A n xs) {k:Nat} (hk:k<n):
 ∃b o,A=some ⟨b,o,none⟩∧b<w.heap.size∧∀(w':World),Later w w'→∀(off m:Nat) (r:List UInt8),subB (xs.getD k []) off m=r→∀j v,(r.map W8)[j]?=some v→w'.cell? ⟨b,o+k*sz+off+j,none⟩=some v:=by
 obtain⟨b,o,hA,hb,hc⟩:=h.2 (by omega)
 refine⟨b,o,hA,hb,fun w' hl off m r hr j v hv=>?_⟩
 rw[QFN,Option.map_eq_some_iff]at hv
 obtain⟨x,hx,rfl⟩:=hv
 rw[←hr]at hx
 refine (hl.below.cell (p:=⟨b,o+k*sz+off+j,none⟩) hb).trans ?_
 have:=hc k (off+j) (W8 x) hk (by rw[QFN,Qqa hx];rfl)
 rwa [←QHx]at this
theorem Qk2 {w:World} {base:Nat} {e:TypeId} {sz:Nat} {v:Value} {n:Nat} {vs:List Value} (h:w.ownsRow base e sz v n vs):∃A c,v= .slice A n c∧n≤c:=by
 rcases h.2 with ⟨rfl,rfl⟩|⟨g,cap,cur,rfl,_,_,hnc,_⟩
 ·exact⟨none,0,rfl,QFE _⟩
 ·exact⟨_,_,rfl,hnc⟩
theorem Qgi {w w':World} {base:Nat} {e:TypeId} {sz:Nat} {v:Value} {n:Nat} {vs:List Value} (h:w.ownsRow base e sz v n vs) (hl:Later w w'):w'.ownsRow base e sz v n vs:=
 h.kept (row:=none) ⟨hl.below.os,hl.below.tape,hl.below.output,hl.size,fun k hk _=>hl.below.block k hk⟩ (by cases v.ownBlock<;>simp)
theorem QcO {w w':World} {base g sz:Nat} {e t:TypeId} {v:Value} {n:Nat} {vs l:List Value} (hb:Blk w g t l) (h:w.ownsRow base e sz v n vs) (hne:t≠e) (hg:w.grownBy w' v.ownBlock):Blk w' g t l:=by
 refine (hg.block g hb.lt ?_).trans hb
 rcases h.2 with ⟨rfl,_⟩|⟨g2,c2,cur2,rfl,_,hh2,_⟩
 ·simp[Value.ownBlock]
 ·intro he
  simp only[Value.ownBlock,Option.some.injEq]at he
  subst he
  exact hb.ne_type (l':=cur2.toList) (t':=e) hh2 hne rfl
theorem QaV {w w':World} {base k sz:Nat} {e t:TypeId} {v:Value} {n:Nat} {vs l:List Value} (h:w.ownsRow base e sz v n vs) (hb:Blk w k t l) (hne:t≠e) (ho:Only k w w'):w'.ownsRow base e sz v n vs:=by
 refine h.kept ho ?_
 rcases h.2 with ⟨rfl,_⟩|⟨g2,c2,cur2,rfl,_,hh2,_⟩
 ·exact .inl rfl
 ·refine .inr fun he=>?_
  simp only[Value.ownBlock,Option.some.injEq]at he
  subst he
  exact hb.ne_type (l':=cur2.toList) (t':=e) hh2 hne rfl
theorem QeO {w w':World} {b1 b2 s1 s2:Nat} {e1 e2:TypeId} {v1 v2:Value} {n1 n2:Nat} {x1 x2:List Value} (h1:w.ownsRow b1 e1 s1 v1 n1 x1) (h2:w.ownsRow b2 e2 s2 v2 n2 x2) (hne:e1≠e2) (hg:w.grownBy w' v2.ownBlock):
 w'.ownsRow b1 e1 s1 v1 n1 x1:=by
 refine h1.kept hg ?_
 rcases h1.2 with ⟨rfl,_⟩|⟨g1,c1,cur1,rfl,_,hh1,_⟩
 ·exact .inl rfl
 ·right
  rcases h2.2 with ⟨rfl,_⟩|⟨g2,c2,cur2,rfl,_,hh2,_⟩
  ·simp[Value.ownBlock]
  ·intro hb
   simp only[Value.ownBlock,Option.some.injEq]at hb
   subst hb
   rw[hh1]at hh2
   injection hh2 with hh2
   injection hh2 with _ h
   exact hne h
theorem Bag.grown {w wk v':World} {ls:List (Nat×TypeId×List Value)} {base sz:Nat} {e:TypeId} {v:Value} {n:Nat} {vs:List Value} (h:Bag w wk ls) (hown:wk.ownsRow base e sz v n vs) (hne:∀p∈ls,p.2.1≠e) (hb:w.heap.size≤base) (hg:wk.grownBy v' v.ownBlock):Bag w v' ls:=
 ⟨h.lat.grownBy hg (fun k hk=>QGh hb (hown.lt k hk).1),fun p hp=>QcO (h.blk p hp) hown (hne p hp) hg,h.low,h.nd⟩
theorem Qlx {w:World} {base:Nat} {e:TypeId} {A:Option Addr} {n c:Nat} {vs:List Value} (h:w.ownsRow base e 1 (.slice A n c) n vs):
 (A=none∧n=0)∨∃g rest,A=some ⟨g,0,none⟩∧base≤g∧Blk w g e (vs++rest)∧c=(vs++rest).length:=by
 rcases h.2 with ⟨hv,h0⟩|⟨g,cap,cur,hv,hb,hh,hnc,hm,hs,ht⟩
 ·cases hv
  exact .inl ⟨rfl,rfl⟩
 ·cases hv
  refine .inr ⟨g,cur.toList.drop n,rfl,hb,?_,?_⟩
  ·rw[show vs=cur.toList.take n by simpa using ht.symm,QF8]
   exact hh
  ·rw[show vs=cur.toList.take n by simpa using ht.symm,QF8]
   simpa using hs.symm
theorem Qvs {w:World} {base g:Nat} {e:TypeId} {vs rest:List Value} (h:Blk w g e (vs++rest)) (hb:base≤g) (hm:(vs++rest).length≤maxLen):
 w.ownsRow base e 1 (.slice (some ⟨g,0,none⟩) vs.length (vs++rest).length) vs.length vs:=
 ⟨by simp,.inr ⟨g,(vs++rest).length,(vs++rest).toArray,rfl,hb,h,by simp,hm,by simp,by simp⟩⟩
theorem Ql3 {w w':World} {base k:Nat} {e:TypeId} {v:Value} {n:Nat} {vs:List Value} (h:w.ownsRow base e 1 v n vs) (ho:Only k w w') (hne:∀b,v.ownBlock=some b→b≠k):w'.ownsRow base e 1 v n vs:=by
 refine h.kept ho ?_
 cases hb:v.ownBlock with
 | none=>exact .inl rfl
 | some b=>exact .inr fun he=>hne b hb (by injection he)
theorem Qjc {w w':World} {base g:Nat} {e t:TypeId} {v:Value} {n:Nat} {vs l:List Value} (hb:Blk w g t l) (h:w.ownsRow base e 1 v n vs) (hne:t≠e) (hg:w.grownBy w' v.ownBlock):Blk w' g t l:=by
 refine (hg.block g hb.lt ?_).trans hb
 rcases h.2 with ⟨rfl,_⟩|⟨g2,c2,cur2,rfl,_,hh2,_⟩
 ·simp[Value.ownBlock]
 ·intro he
  simp only[Value.ownBlock,Option.some.injEq]at he
  subst he
  exact hb.ne_type (l':=cur2.toList) (t':=e) hh2 hne rfl
theorem QjK {w:World} {base:Nat} {e:TypeId} {v:Value} {n:Nat} {vs:List Value} (h:w.ownsRow base e 1 v n vs):∀b,v.ownBlock=some b→b<w.heap.size:=fun b hb=>(h.lt b hb).2
theorem QwZ {w:World} {base g:Nat} {A:Option Addr} {n c:Nat} {p:List UInt8} (h:OwnB w base A n c p) (hg:g<base):Part w (· =g) (.slice A n c) p:=
 ⟨A,n,c,rfl,h.cap,h.rd,fun _ ad hA hb=>by subst hA;have:=(h.lt ad.block rfl).1;omega⟩
theorem Qjh {w:World} {bad:Nat→Prop} {A:Option Addr} {n:Nat} {vs:List Value} {ps:List (List UInt8)} (h:Rd w A n vs) (hv:Avoid bad A n) (hp:PartAll w bad vs ps):Parts w bad A n ps:=
 ⟨vs,h,hv,hp.at_.1,hp.at_.2⟩
theorem QvR {bad:Nat→Prop} {b o n:Nat} (h: ¬bad b):Avoid bad (some ⟨b,o,none⟩) n:=fun _ ad hA hb=>by cases hA;exact h hb
abbrev Y32:={l:List UInt8 // l.length=32}
@[go_sem high] theorem QAO (x y:Y32) (w:World):(binOp .eql 45 (.agg (x.val.map W8).toArray) (.agg (y.val.map W8).toArray)).run Tryz.prog w= .ok (.bool (x.val==y.val)) w:=QjM _ _ x.2 y.2 w
@[go_sem high] theorem QzA (x y:Y32) (w:World):(binOp .neq 45 (.agg (x.val.map W8).toArray) (.agg (y.val.map W8).toArray)).run Tryz.prog w= .ok (.bool (x.val != y.val)) w:=QjG _ _ x.2 y.2 w
theorem QAs {G:List UInt8} (h:G.length=32):∃g:Y32,g.val=G:=⟨⟨G,h⟩,rfl⟩
section
variable {w wk v:World} {ls ls':List (Nat×TypeId×List Value)}
theorem Bag.fresh (h:Bag w wk ls) {k:Nat} {t:TypeId} {l:List Value} (j:Later wk v) (hk:wk.heap.size≤k) (hb:Blk v k t l):Bag w v ((k,t,l) :: ls):=
 h.add j (fun p hp e=>by have:=(h.blk p hp).lt;omega) (QGh h.lat.size hk) hb
theorem Bag.sub (h:Bag w wk ls) (hs:ls'.Sublist ls):Bag w wk ls':=
 ⟨h.lat,fun p hp=>h.blk p (hs.subset hp),fun p hp=>h.low p (hs.subset hp),(hs.map _).nodup h.nd⟩
end
theorem QxR {w:World} {base g n:Nat} {e:TypeId} {l:List Value} (h:Blk w g e l) (hb:base≤g) (hl:l.length=n) (hm:n≤140737488355328):w.ownsRow base e 1 (.slice (some ⟨g,0,none⟩) n n) n l:=by
 have:=Qcj h hb (by omega)
 rwa [hl]at this
theorem Qeo {w:World} {g n:Nat} {t:TypeId} {bs:List UInt8} {rest:List Value} (h:Blk w g t (bs.map W8++rest)) (hn:bs.length=n):RdB w (some ⟨g,0,none⟩) n bs:=
 ⟨by rw[QFA,hn],fun _=>⟨g,0,rfl,h.lt,fun j u hu=>by
   rw[QFX]
   refine h.cellD j ?_
   rw[QFS (QFU.1 hu).1]
   exact hu⟩⟩
theorem QkB {w:World} {g:Nat} {t:TypeId} {v:Value} {p:List UInt8} (hb:Blk w g t [v]) (hp:Part w (fun _=>False) v p):Parts w (fun _=>False) (some ⟨g,0,none⟩) 1 [p]:=
 ⟨[v],hb.rd rfl,Qco _ _,rfl,fun j v' p' hv hp'=>by
   cases j with
   | zero=>
     cases hv
     cases hp'
     exact hp
   | succ j=>simp at hv⟩
theorem Qdh {w:World} {g:Nat} {t:TypeId} {v1 v2:Value} {p1 p2:List UInt8} (hb:Blk w g t [v1,v2]) (h1:Part w (fun _=>False) v1 p1) (h2:Part w (fun _=>False) v2 p2):Parts w (fun _=>False) (some ⟨g,0,none⟩) 2 [p1,p2]:=
 ⟨[v1,v2],hb.rd rfl,Qco _ _,rfl,fun j v' p' hv hp'=>by
   match j with
   | 0=>
     cases hv
     cases hp'
     exact h1
   | 1=>
     cases hv
     cases hp'
     exact h2
   | j+2=>simp at hv⟩
theorem Qhe {w:World} {base n c:Nat} {A:Option Addr} {bs:List UInt8} (h:OwnB w base A n c bs) (hn:0<n):∃g rest,A=some ⟨g,0,none⟩∧base≤g∧Blk w g 5 (bs.map W8++rest)∧c=(bs.map W8++rest).length∧n≤c:=by
 rcases Qlx h with ⟨_,h0⟩|⟨g,rest,e,h1,h2,h3⟩
 ·omega
 ·exact⟨g,rest,e,h1,h2,h3,h.cap⟩
theorem QvV {ls:List (Nat×TypeId×List Value)} {t:TypeId} (h: ¬t∈ls.map (·.2.1)):∀p∈ls,p.2.1≠t:=fun p hp e=>h (QGf.2 ⟨p,hp,e⟩)
theorem Qfj {w:World} {A:Option Addr} {n c:Nat} {p:List UInt8} (h:RdB w A n p) (hc:n≤c):Part w (fun _=>False) (.slice A n c) p:=⟨A,n,c,rfl,hc,h,fun _ _ _ h=>h⟩
end Go.Proofs.YtcbdgnlcknllnaaGreat
namespace Go.Proofs.YtcbdgnlcknllnaaGreat
open Go.RowKit
open Go.BigFrame
def rotl (x:UInt32) (n:Nat):UInt32:=Qfu x n ||| QbZ x (32-n)
theorem Qq6 (n:Nat) (h1:n<32):cnt (QGH (n:Int) &&& 31)=n∧cnt (32-(QGH (n:Int) &&& 31))=32-n:=by
 have:∀k:Fin 32,cnt (QGH (k.val:Int) &&& 31)=k.val∧cnt (32-(QGH (k.val:Int) &&& 31))=32-k.val:=by decide
 exact this ⟨n,h1⟩
theorem Qtf (x:UInt32) (n:Nat) (i:Int) (hi:i=(n:Int)) (h1:n<32) (w:World):
 Calls Tryz.prog 197 #[W32 x,.int .i64 i] w fun e w'=>e= .returned (W32 (rotl x n))∧w'=w:=by
 subst hi
 have hc:=hid (Qq6 n h1)
 go_enter Tryz.func197,Tryz.ntmps197
 go_wp2
 go_ret
 exact⟨Qu2 (by rw[hc.out.1,hc.out.2,rotl]),rfl⟩
theorem Qnc {fn:Func} {t u v x:Tmp} (h:fn.results= #[.tmp t,.tmp u,.tmp v,.tmp x]) (tmps:Array Value) (P:Program) (w:World):
 (results fn tmps).run P w= .ok (.tuple #[tmps.getD t undef,tmps.getD u undef,tmps.getD v undef,tmps.getD x undef]) w:=by
 simp[results,h]
def Qj2 (v:UInt32×UInt32×UInt32×UInt32) (n:Nat):UInt32×UInt32×UInt32×UInt32:=(v.1+v.2.1,v.2.1,v.2.2.1,rotl (v.2.2.2 ^^^ (v.1+v.2.1)) n)
def Qnv (v:UInt32×UInt32×UInt32×UInt32) (n:Nat):UInt32×UInt32×UInt32×UInt32:=(v.1,rotl (v.2.1 ^^^ (v.2.2.1+v.2.2.2)) n,v.2.2.1+v.2.2.2,v.2.2.2)
def Qif (a b c d:UInt32):UInt32×UInt32×UInt32×UInt32:=Qnv (Qj2 (Qnv (Qj2 (a,b,c,d) 16) 12) 8) 7
set_option maxHeartbeats 1000000 in
theorem Qom (a b c d:UInt32) (w:World):Calls Tryz.prog 192 #[W32 a,W32 b,W32 c,W32 d] w fun e w'=>
 e= .returned (.tuple #[W32 (Qif a b c d).1,W32 (Qif a b c d).2.1,W32 (Qif a b c d).2.2.1,W32 (Qif a b c d).2.2.2])∧w'=w:=by
 have hr:=hid Qtf
 go_enter Tryz.func192,Tryz.ntmps192
 go_wp2_with fail
 refine (hr.out _ 16 _ rfl (by omega) _).mono ?_;rintro e w1 ⟨rfl,rfl⟩
 go_wp2_with fail
 refine (hr.out _ 12 _ rfl (by omega) _).mono ?_;rintro e w1 ⟨rfl,rfl⟩
 go_wp2_with fail
 refine (hr.out _ 8 _ rfl (by omega) _).mono ?_;rintro e w1 ⟨rfl,rfl⟩
 go_wp2_with fail
 refine (hr.out _ 7 _ rfl (by omega) _).mono ?_;rintro e w1 ⟨rfl,rfl⟩
 go_wp2_with fail
 (try simp only[Exit.inBlock,Exit.then]);refine bodyPost_ret (Qnc rfl _ _ _) rfl ?_
 exact⟨rfl,rfl⟩
def leW (bs:List UInt8) (k:Nat):UInt32:=(Qb2 bs (4*k)).toUInt32 ||| Qfu (Qb2 bs (4*k+1)).toUInt32 8 ||| Qfu (Qb2 bs (4*k+2)).toUInt32 16 ||| Qfu (Qb2 bs (4*k+3)).toUInt32 24
theorem QpL {x y:UInt32} {w:World} (h:x=y) (w':World) (hl:Later w w'):Ending.returned (W32 x)= .returned (W32 y)∧Later w w':=⟨by rw[h],hl⟩
set_option maxHeartbeats 1000000 in
theorem QAH (A:Option Addr) (n c:Nat) (bs:List UInt8) (p:Nat) (w:World) (hr:RdB w A n bs) (hk:p+4≤n) (hn:n≤140737488355328):
 Calls Tryz.prog 191 #[.slice A n c,.int .i64 (p:Int)] w fun e w'=>e= .returned (W32 ((Qb2 bs p).toUInt32 ||| Qfu (Qb2 bs (p+1)).toUInt32 8 ||| Qfu (Qb2 bs (p+2)).toUInt32 16 ||| Qfu (Qb2 bs (p+3)).toUInt32 24))∧Later w w':=by
 have hl:=hr.len
 obtain⟨b,o,rfl,hb,hc⟩:=hr.at_ (by omega)
 have c0:=hc p (by omega)
 have c1:=hc (p+1) (by omega)
 have c2:=hc (p+2) (by omega)
 have c3:=hc (p+3) (by omega)
 unfold Qb2
 generalize bs.getD p 0=x0 at *
 generalize bs.getD (p+1) 0=x1 at *
 generalize bs.getD (p+2) 0=x2 at *
 generalize bs.getD (p+3) 0=x3 at *
 clear hc hr
 go_enter Tryz.func191,Tryz.ntmps191
 go_wp2_with fail
 refine Qad [] [0,1,2,3,4,5,6,7,8,9,10,11,12,13,14,15,16,17,18,19,20,21,22,23,24,25,26,27,28,29] [] (by as_aux_lemma=>kernel_rfl) (by as_aux_lemma=>kernel_rfl) (by intro _ _ d _ _ h;cases d<;>exact h) ?_
 simp only[Qah,pick,QFv,QFw,QFx,QFy,QFz]
 repeat (go_big_quiet_step (fail))
 refine wpQuiet_nil ?_
 go_wp2_with fail
 go_ret
 exact QpL rfl _ (Qab _)
theorem Qqi (A:Option Addr) (n c:Nat) (bs:List UInt8) (k:Nat) (i:Int) (hi:i=4*(k:Int)) (w:World) (hr:RdB w A n bs) (hk:4*k+4≤n) (hn:n≤140737488355328):
 Calls Tryz.prog 191 #[.slice A n c,.int .i64 i] w fun e w'=>e= .returned (W32 (leW bs k))∧Later w w':=by
 obtain rfl:i=((4*k:Nat):Int):=by omega
 exact QAH A n c bs (4*k) w hr hk hn
def putQ (s:List UInt32) (a b c d:Nat) (q:UInt32×UInt32×UInt32×UInt32):List UInt32:=(((s.set a q.1).set b q.2.1).set c q.2.2.1).set d q.2.2.2
def QdZ (s:List UInt32) (a b c d:Nat):List UInt32:=putQ s a b c d (Qif (wAt s a) (wAt s b) (wAt s c) (wAt s d))
theorem QdL (s:List UInt32) (a b c d:Nat):(QdZ s a b c d).length=s.length:=by simp[QdZ,putQ]
theorem Qe7 {s:List UInt32} {i:Nat} (h:i<s.length):(s.map W32)[i]?=some (W32 (wAt s i)):=by
 rw[QFN,QFB h,wAt,QFC,QFB h]
 rfl
theorem Qd0 (s:List UInt32) (i:Nat) (x:UInt32):(s.map W32).set i (W32 x)=(s.set i x).map W32:=by rw[QHO]
theorem QbE:(Tryz.prog.info? 50).map (·.size)=some 1:=by kernel_rfl
set_option maxRecDepth 100000 in
set_option maxHeartbeats 2000000 in
theorem Qu7 (g:Nat) (t:TypeId) (s:List UInt32) (a b c d:Nat) (ia ib ic id:Int) (ha:ia=(a:Int)) (hb:ib=(b:Int)) (hc:ic=(c:Int)) (hd:id=(d:Int)) (w:World) (hs:Blk w g t (s.map W32)) (hl:s.length=16) (h1:a<16) (h2:b<16) (h3:c<16) (h4:d<16):
 Calls Tryz.prog 187 #[.pointer (some ⟨g,0,none⟩),.int .i64 ia,.int .i64 ib,.int .i64 ic,.int .i64 id] w fun e w'=>e= .returned (.tuple #[])∧Blk w' g t ((QdZ s a b c d).map W32)∧Only g w w':=by
 subst ha hb hc hd
 have d1:=hs.cellD a (Qe7 (s:=s) (by omega))
 have d2:=hs.cellD b (Qe7 (s:=s) (by omega))
 have d3:=hs.cellD c (Qe7 (s:=s) (by omega))
 have d4:=hs.cellD d (Qe7 (s:=s) (by omega))
 have hq:=hid Qom
 have hR:=hid (show QdZ s a b c d=putQ s a b c d (Qif (wAt s a) (wAt s b) (wAt s c) (wAt s d)) from rfl)
 generalize QdZ s a b c d=R at *
 generalize wAt s a=xa at *
 generalize wAt s b=xb at *
 generalize wAt s c=xc at *
 generalize wAt s d=xd at *
 go_enter Tryz.func187,Tryz.ntmps187
 go_wp2_with fail
 refine Qic [([0,1,2,3,4,5,6,7,34,37,40,43],[8,9,10,11,12,13,14,15,16,17,18,19,20,21,22,23,24,25,26,27],28)] [29,30,31,32,33] [35] [36,38,39,41,42,44,45] (by as_aux_lemma=>kernel_rfl) (by as_aux_lemma=>kernel_rfl) (by intro _ _ d _ _ h;cases d<;>exact h) ?_
 simp only[Qhb,pick,QFv,QFw,QFx,QFy,QFz]
 repeat (go_big_quiet_step (fail))
 refine wpQuiet_nil ?_
 repeat (go_big_quiet_step (fail))
 refine wpQuiet_nil ?_
 go_wp2_with fail
 refine (hq.out _ _ _ _ _).mono ?_;rintro e w1 ⟨rfl,rfl⟩
 generalize Qif xa xb xc xd=q at *
 obtain⟨qa,qb,qc,qd⟩:=q
 go_wp2_with fail
 try refine⟨by first|assumption|exact Qab _|exact Qaa _ _|exact Later.refl _,?_⟩
 try simp only[Qhb,pick,QFv,QFw,QFx,QFy,QFz]
 repeat (go_big_quiet_step (fail))
 refine wpQuiet_nil ?_
 repeat (go_big_quiet_step (fail))
 refine wpQuiet_nil ?_
 have hs':=hs.drew
 go_wp2_with (first
  | (refine Qac rfl rfl _ _ _ rfl g a t _ hs' rfl (by rw[QFA];omega) rfl QbE ?_;intro v' w5 hv' hb5 ho5;simp[go_sem]at hv';subst hv';rw[Qd0]at hb5)
  | (refine Qac rfl rfl _ _ _ rfl g b t _ hb5 rfl (by rw[QFA,QGd];omega) rfl QbE ?_;intro v' w6 hv' hb6 ho6;simp[go_sem]at hv';subst hv';rw[Qd0]at hb6)
  | (refine Qac rfl rfl _ _ _ rfl g c t _ hb6 rfl (by rw[QFA,QGd,QGd];omega) rfl QbE ?_;intro v' w7 hv' hb7 ho7;simp[go_sem]at hv';subst hv';rw[Qd0]at hb7)
  | (refine Qac rfl rfl _ _ _ rfl g d t _ hb7 rfl (by rw[QFA,QGd,QGd,QGd];omega) rfl QbE ?_;intro v' w8 hv' hb8 ho8;simp[go_sem]at hv';subst hv';rw[Qd0]at hb8)
  | fail)
 exact bodyPost_end (results_none rfl _ _ _) rfl ⟨rfl,by rw[hR.out];exact hb8,(Qab _).thenOnly (((ho5.trans ho6).trans ho7).trans ho8)⟩
def chaC:List UInt32:=[1634760805,857760878,2036477234,1797285236]
def QlM (key:List UInt8) (k:Nat):List UInt32:=chaC++(QF6 k).map (leW key)++QFu (12-k) 0
def Ql9 (key nonce:List UInt8) (ctr:UInt32) (k:Nat):List UInt32:=chaC++(QF6 8).map (leW key)++[ctr]++(QF6 k).map (leW nonce)++QFu (3-k) 0
def QgO (key nonce:List UInt8) (ctr:UInt32):List UInt32:=chaC++(QF6 8).map (leW key)++[ctr]++(QF6 3).map (leW nonce)
theorem Qnk (key:List UInt8) (k:Nat) (h:k≤12):(QlM key k).length=16:=by
 simp[QlM,chaC]
 omega
theorem Qm3 (key nonce:List UInt8) (ctr:UInt32) (k:Nat) (h:k≤3):(Ql9 key nonce ctr k).length=16:=by
 simp[Ql9,chaC]
 omega
theorem Qfy (key nonce:List UInt8) (ctr:UInt32):(QgO key nonce ctr).length=16:=by simp[QgO,chaC]
theorem Qjk {α:Type} (z:α) (pre:List α) (f:Nat→α) (k n:Nat) (h:k<n):(pre++(QF6 k).map f++QFu (n-k) z).set (pre.length+k) (f k)=pre++(QF6 (k+1)).map f++QFu (n-(k+1)) z:=by
 have e:n-k=(n-(k+1))+1:=by omega
 rw[e,QHv,QF9 _ _ (by simp),QG4,QF2]
 simp
theorem Qq3 (key:List UInt8) (k:Nat) (h:k<8):(QlM key k).set (4+k) (leW key k)=QlM key (k+1):=Qjk 0 chaC (leW key) k 12 (by omega)
theorem Qsq (key nonce:List UInt8) (ctr:UInt32) (k:Nat) (h:k<3):(Ql9 key nonce ctr k).set (13+k) (leW nonce k)=Ql9 key nonce ctr (k+1):=by
 have:=Qjk 0 (chaC++(QF6 8).map (leW key)++[ctr]) (leW nonce) k 3 h
 rw[show (chaC++(QF6 8).map (leW key)++[ctr]).length=13 by simp[chaC]]at this
 exact this
theorem QCu (key nonce:List UInt8) (ctr:UInt32):(QlM key 8).set 12 ctr=Ql9 key nonce ctr 0:=by
 rw[QlM,Ql9,QF9 _ _ (by simp[chaC])]
 simp[chaC]
theorem QtX (key nonce:List UInt8) (ctr:UInt32):Ql9 key nonce ctr 3=QgO key nonce ctr:=by simp[Ql9,QgO]
theorem QoL:(Tryz.prog.info? 314).map (·.size)=some 16:=by kernel_rfl
section
variable {ops:Array Oper} {rest:List Oper} {o:Oper} {a:Act} {w:World} {Q:Exit→Act→World→Prop}
theorem Qo0 (hgd:o.guard=none) (hd:o.dst=none) (x y:Operand) (ho:o.op= .store 314 x y) {g:Nat} {t:TypeId} {l:List Value} {vs:List UInt32} (hg:Blk w g t l) (hx:a.eval x= .pointer (some ⟨g,0,none⟩)) (hy:a.eval y= .agg (vs.map W32).toArray)
 (hn:vs.length=16) (hl:l.length=16) (h:∀w',Blk w' g t (vs.map W32)→Only g w w'→wpList Tryz.prog ops Q rest a w'):wpList Tryz.prog ops Q (o :: rest) a w:=
 Qai hgd hd _ x y ho g 0 t l (vs.map W32) hg hx hy (by rw[QFA,hn];exact QoL) (by rw[QFA];omega) (QfD _) (fun w' hb=>h w' (by rwa [Qap _ _ (by rw[QFA];omega)]at hb))
theorem QsB (hgd:o.guard=none) (x:Operand) (ho:o.op= .load 314 x) {g:Nat} {t:TypeId} {vs:List UInt32} (hb:Blk w g t (vs.map W32)) (hl:vs.length=16) (hx:a.eval x= .pointer (some ⟨g,0,none⟩))
 (h:wpList Tryz.prog ops Q rest (a.put o.dst (.agg (vs.map W32).toArray)) w):wpList Tryz.prog ops Q (o :: rest) a w:=
 QaC hgd _ x ho g 0 (vs.map W32) (fun j v hv=>by rw[QFX];exact hb.cellD j hv) hx _ Tryz.underlying314 rfl (by rw[QFA,hl];exact QoL) h
end
set_option maxRecDepth 100000 in
set_option maxHeartbeats 4000000 in
theorem QoT (A B:Option Addr) (c d:Nat) (key nonce:List UInt8) (ctr:UInt32) (w:World) (hk:RdB w A 32 key) (hn:RdB w B 12 nonce):
 Calls Tryz.prog 186 #[.slice A 32 c,.slice B 12 d,W32 ctr] w fun e w'=>e= .returned (.agg ((QgO key nonce ctr).map W32).toArray)∧Later w w':=by
 have hA:=hid (Qnk key)
 have hB:=hid (Qm3 key nonce ctr)
 have sA:=hid (Qq3 key)
 have sB:=hid (Qsq key nonce ctr)
 have hAB:=hid (QCu key nonce ctr)
 have hBA:=hid (QtX key nonce ctr)
 have hL:=Qfy key nonce ctr
 have h0:=hid (show QlM key 0=[1634760805,857760878,2036477234,1797285236,0,0,0,0,0,0,0,0,0,0,0,0] from rfl)
 have hw:=hid (fun k i w hi h hk=>Qqi A 32 c key k i hi w h hk (by omega))
 have hw2:=hid (fun k i w hi h hk=>Qqi B 12 d nonce k i hi w h hk (by omega))
 generalize QgO key nonce ctr=L0 at *
 go_enter Tryz.func186,Tryz.ntmps186
 go_wp2_with (first
  | (refine Qao rfl 314 _ rfl (([1634760805,857760878,2036477234,1797285236,0,0,0,0,0,0,0,0,0,0,0,0]:List UInt32).map W32) ?hb ?_;(case hb=>kernel_rfl))
  | fail)
 have hR:=(Blk.new w 314 (QFu 16 (Value.int .u32 0))).later (Qaa _ (.cells #[W32 1634760805,W32 857760878,W32 2036477234,W32 1797285236,W32 0,W32 0,W32 0,W32 0,W32 0,W32 0,W32 0,W32 0,W32 0,W32 0,W32 0,W32 0] 314))
 have hS:Blk ((w.alloc (.cells (QFu 16 (Value.int .u32 0)).toArray 314)).alloc (.cells #[W32 1634760805,W32 857760878,W32 2036477234,W32 1797285236,W32 0,W32 0,W32 0,W32 0,W32 0,W32 0,W32 0,W32 0,W32 0,W32 0,W32 0,W32 0] 314)) (w.heap.size+1) 314 ((QlM key 0).map W32):=by
  rw[h0.out]
  exact Blk.new' (w.alloc _) _ _ (by simp)
 have L0:=(Qaa w (.cells (QFu 16 (Value.int .u32 0)).toArray 314)).trans (Qaa _ (.cells #[W32 1634760805,W32 857760878,W32 2036477234,W32 1797285236,W32 0,W32 0,W32 0,W32 0,W32 0,W32 0,W32 0,W32 0,W32 0,W32 0,W32 0,W32 0] 314))
 go_loopw [8] (fun i wr=>∃k:Nat,k≤8∧i= .int .i64 k∧Later w wr∧Blk wr w.heap.size 314 (QFu 16 (Value.int .u32 0))∧Blk wr (w.heap.size+1) 314 ((QlM key k).map W32)) (fun i _=>8-(intOf i).toNat)
 case atStart=>exact⟨0,by omega,rfl,L0,hR,hS⟩
 case round=>
  clear L0 hR hS
  obtain⟨k,hk',rfl,L,hR,hS⟩:=hrel
  by_cases hlt:k<8
  ·have hl:=hA.out k (by omega)
   have HST:=hid (sA.out k hlt)
   have t4:((4:Int)+(k:Int)).toNat=4+k:=by omega
   go_wp2_with fail
   (refine (hw.out k _ _ rfl (hk.later L) (by omega)).mono ?_);rintro e w3 ⟨rfl,j3⟩
   go_wp2_with (first
    | (refine Qac rfl rfl _ _ _ rfl (w.heap.size+1) (4+k) _ _ (hS.later j3) rfl (by rw[QFA];omega) rfl QbE ?_;intro v' w5 hv' hb5 ho5;simp[go_sem]at hv';subst hv';rw[Qd0,HST.out]at hb5)
    | fail)
   go_roundw
   case rel=>exact⟨k+1,by omega,by go_num,(L.trans j3).only ho5 (by omega),(hR.later j3).only ho5 (by omega),hb5⟩
   case measure=>simp[intOf];omega
  ·obtain rfl:8=k:=by omega
   have hl:=hA.out 8 (by omega)
   go_wp2_with (first
    | (refine Qac rfl rfl _ _ _ rfl (w.heap.size+1) 12 _ _ hS rfl (by rw[QFA];omega) rfl QbE ?_;intro v' w5 hv' hb5 ho5;simp[go_sem]at hv';subst hv';rw[Qd0,hAB.out]at hb5)
    | fail)
   have L5:=L.only ho5 (by omega)
   have hR5:=hR.only ho5 (by omega)
   clear L hR hS ho5
   go_loopw [9] (fun i wr=>∃k:Nat,k≤3∧i= .int .i64 k∧Later w wr∧Blk wr w.heap.size 314 (QFu 16 (Value.int .u32 0))∧Blk wr (w.heap.size+1) 314 ((Ql9 key nonce ctr k).map W32)) (fun i _=>3-(intOf i).toNat)
   case atStart=>exact⟨0,by omega,rfl,L5,hR5,hb5⟩
   case round=>
    clear L5 hR5 hb5
    obtain⟨k,hk',rfl,L,hR,hS⟩:=hrel
    by_cases hlt:k<3
    ·have hl:=hB.out k (by omega)
     have HST:=hid (sB.out k hlt)
     have t4:((13:Int)+(k:Int)).toNat=13+k:=by omega
     go_wp2_with fail
     (refine (hw2.out k _ _ rfl (hn.later L) (by omega)).mono ?_);rintro e w3 ⟨rfl,j3⟩
     go_wp2_with (first
      | (refine Qac rfl rfl _ _ _ rfl (w.heap.size+1) (13+k) _ _ (hS.later j3) rfl (by rw[QFA];omega) rfl QbE ?_;intro v' w5 hv' hb5 ho5;simp[go_sem]at hv';subst hv';rw[Qd0,HST.out]at hb5)
      | fail)
     go_roundw
     case rel=>(repeat apply Exists.intro);exact⟨⟨k+1,by omega,by go_num,(L.trans j3).only ho5 (by omega),(hR.later j3).only ho5 (by omega),hb5⟩,rfl⟩
     case measure=>simp[intOf];omega
    ·obtain rfl:3=k:=by omega
     rw[hBA.out]at hS
     go_wp2_with (first
      | (refine QsB rfl _ rfl hS hL rfl ?_)
      | (refine Qo0 rfl rfl _ _ rfl hR rfl rfl hL rfl ?_;intro w9 hb9 ho9)
      | fail)
     exact bodyPost_ret (QaI rfl _ _ _ _ _ _ hb9 rfl Tryz.underlying314 rfl (by rw[QFA,hL];exact QoL)) rfl ⟨rfl,L.only ho9 (QFE _)⟩
def dbl (s:List UInt32):List UInt32:=
 QdZ (QdZ (QdZ (QdZ (QdZ (QdZ (QdZ (QdZ s 0 4 8 12) 1 5 9 13) 2 6 10 14) 3 7 11 15) 0 5 10 15) 1 6 11 12) 2 7 8 13) 3 4 9 14
def dblN (s:List UInt32):Nat→List UInt32
 | 0=>s
 | k+1=>dbl (dblN s k)
theorem QrM (s:List UInt32):(dbl s).length=s.length:=by simp[dbl,QdL]
theorem QiE (s:List UInt32):∀k,(dblN s k).length=s.length
 | 0=>rfl
 | k+1=>by rw[dblN,QrM,QiE s k]
def le4 (x:UInt32):List UInt8:=[x.toUInt8,(QbZ x 8).toUInt8,(QbZ x 16).toUInt8,(QbZ x 24).toUInt8]
def Qey (f s:List UInt32) (k:Nat):List UInt8:=(QF6 k).flatMap fun i=>le4 (wAt f i+wAt s i)
theorem QgG (f s:List UInt32) (k:Nat):Qey f s (k+1)=Qey f s k++le4 (wAt f k+wAt s k):=by
 simp[Qey,QG4]
theorem QdM (f s:List UInt32):∀k,(Qey f s k).length=4*k
 | 0=>rfl
 | k+1=>by rw[QgG,QFF,QdM f s k,le4];simp;omega
def chaB (key nonce:List UInt8) (ctr:UInt32):List UInt8:=Qey (dblN (QgO key nonce ctr) 10) (QgO key nonce ctr) 16
theorem QjD (key nonce:List UInt8) (ctr:UInt32):(chaB key nonce ctr).length=64:=QdM _ _ 16
theorem QeD {w:World} {base:Nat} {A:Option Addr} {n c:Nat} {xs ys:List UInt8} (h:w.ownsRow base 5 1 (.slice A n c) n (xs.map W8++ys.map W8)):OwnB w base A n c (xs++ys):=by
 rw[←QF2]at h
 exact h
theorem QwC (g:Nat) (t:TypeId) (s:List UInt32) (a b c d:Nat) (ia ib ic id:Int) (ha:ia=(a:Int)) (hb:ib=(b:Int)) (hc:ic=(c:Int)) (hd:id=(d:Int)) (w:World) (hs:Blk w g t (s.map W32)) (hl:s.length=16) (h1:a<16) (h2:b<16) (h3:c<16) (h4:d<16):
 Calls Tryz.prog 187 #[.pointer (some ⟨g,0,none⟩),.int .i64 ia,.int .i64 ib,.int .i64 ic,.int .i64 id] w fun e w'=>e= .returned (.tuple #[])∧∃s',Hid (s'=QdZ s a b c d)∧s'.length=16∧Blk w' g t (s'.map W32)∧Only g w w':=
 (Qu7 g t s a b c d ia ib ic id ha hb hc hd w hs hl h1 h2 h3 h4).mono fun _ _ ⟨he,hb,ho⟩=>⟨he,_,hid rfl,(QdL s a b c d).trans hl,hb,ho⟩
set_option maxRecDepth 100000 in
set_option maxHeartbeats 8000000 in
theorem Quj (A B:Option Addr) (c d:Nat) (key nonce:List UInt8) (ctr:UInt32) (w:World) (hk:RdB w A 32 key) (hn:RdB w B 12 nonce):
 Calls Tryz.prog 180 #[.slice A 32 c,.slice B 12 d,W32 ctr] w fun e w'=>∃A' c',e= .returned (.tuple #[.slice A' 64 c',.int .i64 0])∧OwnB w' w.heap.size A' 64 c' (chaB key nonce ctr)∧Later w w':=by
 have hI:=hid (QoT A B c d key nonce ctr w hk hn)
 have hsl:=Qfy key nonce ctr
 have hC:=hid (show chaB key nonce ctr=Qey (dblN (QgO key nonce ctr) 10) (QgO key nonce ctr) 16 from rfl)
 generalize QgO key nonce ctr=S at *
 generalize chaB key nonce ctr=CB at *
 have hr:=hid QwC
 have hdl:=hid (fun k=>(QiE S k).trans hsl)
 have hrl:=hid QdL
 have hd1:=hid (fun k=>show dblN S (k+1)=dbl (dblN S k) from rfl)
 go_enter Tryz.func180,Tryz.ntmps180
 go_wp2_with fail
 (with_reducible refine (hI.out).mono ?_);rintro e w1 ⟨rfl,j1⟩
 go_wp2_with (first
  | (refine Qo0 rfl rfl _ _ rfl (Blk.new w1 _ (QFu 16 (.int .u32 0))) rfl rfl hsl rfl ?_;intro w2 hb2 ho2
     have B2:=(Bag.none w).push (j1.trans (Qaa w1 _)) j1.size ho2 hb2)
  | (refine QsB rfl _ rfl (B2.nth 0 rfl) hsl rfl ?_)
  | (refine Qo0 rfl rfl _ _ rfl (Blk.new w2 _ (QFu 16 (.int .u32 0))) rfl rfl hsl rfl ?_;intro w3 hb3 ho3
     have B3:=B2.push (Qaa w2 _) (QFE _) ho3 hb3)
  | fail)
 clear B2 hb2 hb3 ho2 ho3 j1
 generalize w1.heap.size=g8 at *
 generalize w2.heap.size=g9 at *
 go_loopw [26] (fun i wr=>∃k:Nat,k≤10∧i= .int .i64 k∧Bag w wr [(g9,314,(dblN S k).map W32),(g8,314,S.map W32)]) (fun i _=>10-(intOf i).toNat)
 case atStart=>exact⟨0,by omega,rfl,B3⟩
 case round=>
  clear B3
  obtain⟨k,hk',rfl,B3⟩:=hrel
  by_cases hlt:k<10
  ·have hl:=hdl.out k
   have hd2:=hid (hd1.out k)
   generalize dblN S k=T at *
   obtain⟨T0,hT0⟩:∃T0,T0=dblN S (k+1):=⟨_,rfl⟩
   rw[←hT0]at hd2
   replace hT0:=hid hT0
   go_wp2_with fail
   have b0:=B3.nth 0 rfl
   (refine (hr.out g9 _ T 0 4 8 12 _ _ _ _ rfl rfl rfl rfl _ b0 hl (by omega) (by omega) (by omega) (by omega)).mono ?_);rintro e w4 ⟨rfl,T1,e1,l1,b1,o1⟩
   go_wp2_with fail
   (refine (hr.out g9 _ T1 1 5 9 13 _ _ _ _ rfl rfl rfl rfl _ b1 l1 (by omega) (by omega) (by omega) (by omega)).mono ?_);rintro e w5 ⟨rfl,T2,e2,l2,b2,o2⟩
   clear b1
   go_wp2_with fail
   (refine (hr.out g9 _ T2 2 6 10 14 _ _ _ _ rfl rfl rfl rfl _ b2 l2 (by omega) (by omega) (by omega) (by omega)).mono ?_);rintro e w6 ⟨rfl,T3,e3,l3,b3,o3⟩
   clear b2
   go_wp2_with fail
   (refine (hr.out g9 _ T3 3 7 11 15 _ _ _ _ rfl rfl rfl rfl _ b3 l3 (by omega) (by omega) (by omega) (by omega)).mono ?_);rintro e w7 ⟨rfl,T4,e4,l4,b4,o4⟩
   clear b3
   go_wp2_with fail
   (refine (hr.out g9 _ T4 0 5 10 15 _ _ _ _ rfl rfl rfl rfl _ b4 l4 (by omega) (by omega) (by omega) (by omega)).mono ?_);rintro e w8 ⟨rfl,T5,e5,l5,b5,o5⟩
   clear b4
   go_wp2_with fail
   (refine (hr.out g9 _ T5 1 6 11 12 _ _ _ _ rfl rfl rfl rfl _ b5 l5 (by omega) (by omega) (by omega) (by omega)).mono ?_);rintro e w9 ⟨rfl,T6,e6,l6,b6,o6⟩
   clear b5
   go_wp2_with fail
   (refine (hr.out g9 _ T6 2 7 8 13 _ _ _ _ rfl rfl rfl rfl _ b6 l6 (by omega) (by omega) (by omega) (by omega)).mono ?_);rintro e w10 ⟨rfl,T7,e7,l7,b7,o7⟩
   clear b6
   go_wp2_with fail
   (refine (hr.out g9 _ T7 3 4 9 14 _ _ _ _ rfl rfl rfl rfl _ b7 l7 (by omega) (by omega) (by omega) (by omega)).mono ?_);rintro e w11 ⟨rfl,T8,e8,l8,b8,o8⟩
   clear b7
   go_wp2_with fail
   go_roundw
   case rel=>
    refine⟨k+1,by omega,by go_num,?_⟩
    rw[←hT0.out,hd2.out,dbl,←e1.out,←e2.out,←e3.out,←e4.out,←e5.out,←e6.out,←e7.out,←e8.out]
    exact B3.write 0 rfl (((((((o1.trans o2).trans o3).trans o4).trans o5).trans o6).trans o7).trans o8) b8
   case measure=>simp[intOf];omega
  ·obtain rfl:10=k:=by omega
   have hl:=hdl.out 10
   generalize dblN S 10=F at *
   have hCs:=hid (QgG F S)
   have hCl:=hid (QdM F S)
   have hC0:=hid (show Qey F S 0=[] from rfl)
   go_wp2_with (first
    | (refine Qc1 rfl _ _ _ rfl 5 _ 1 Tryz.underlying25 Qbq rfl _ _ _ _ 0 64 rfl rfl rfl rfl (by omega) (by omega) (by omega) ?_;intro w4 hown4 hl4)
    | (refine QsB rfl _ rfl ((B3.nth 0 rfl).later hl4) hl rfl ?_)
    | fail)
   have hgr:=B3.lat.size
   have B4:=B3.later hl4
   have hown5:OwnB w4 w.heap.size (some ⟨wr.heap.size,0,none⟩) 0 64 (Qey F S 0):=by
    rw[hC0.out]
    exact Qbc hown4 hgr
   clear B3 hown4 hl4
   generalize wr.heap.size=g10 at *
   go_loopw [10,39] (fun v i wr=>∃(k:Nat) (A':Option Addr) (c':Nat),k≤16∧i= .int .i64 k∧v= .slice A' (4*k) c'∧OwnB wr w.heap.size A' (4*k) c' (Qey F S k)∧Later w wr∧Blk wr g8 314 (S.map W32)) (fun _ i _=>16-(intOf i).toNat)
   case atStart=>exact⟨0,_,_,by omega,rfl,rfl,hown5,B4.lat,B4.nth 1 rfl⟩
   case round=>
    clear hown5 B4 hgr
    obtain⟨k,A6,c6,hk6,rfl,rfl,hown,L,h8⟩:=hrel
    by_cases hlt:k<16
    ·have HCS:=hid (hCs.out k)
     have c8:=h8.cellD k (Qe7 (s:=S) (by omega))
     have hix:∀W',(Instr.index 314 (.agg (F.map W32).toArray) (.int .i64 (k:Int))).run Tryz.prog W'= .ok (W32 (wAt F k)) W':=fun W'=>Qfh Tryz.underlying314 QbE Tryz.underlying50 rfl (F.map W32) .i64 k (W32 (wAt F k)) hlt (Qe7 (by omega)) W'
     generalize wAt F k=xf at *
     generalize wAt S k=xs at *
     generalize Qey F S k=O at *
     have hle:Hid ([xf.toUInt8+xs.toUInt8,(QbZ (xf+xs) 8).toUInt8,(QbZ (xf+xs) 16).toUInt8,(QbZ (xf+xs) 24).toUInt8]=le4 (xf+xs)):=hid (by rw[le4,UInt32.toUInt8_add])
     have J:=Qaa wr (.cells #[W8 (xf.toUInt8+xs.toUInt8),W8 (QbZ (xf+xs) 8).toUInt8,W8 (QbZ (xf+xs) 16).toUInt8,W8 (QbZ (xf+xs) 24).toUInt8] 5)
     go_wp2_with (first
      | (refine Qal rfl _ _ _ rfl 5 _ 1 Tryz.underlying25 Qbq rfl w _ (4*k) _ (hown.later J) (L.trans J) _ 4 4 _ ((Blk.new wr 5 [W8 (xf.toUInt8+xs.toUInt8),W8 (QbZ (xf+xs) 8).toUInt8,W8 (QbZ (xf+xs) 16).toUInt8,W8 (QbZ (xf+xs) 24).toUInt8]).rd rfl) (Qay [xf.toUInt8+xs.toUInt8,(QbZ (xf+xs) 8).toUInt8,(QbZ (xf+xs) 16).toUInt8,(QbZ (xf+xs) 24).toUInt8]) rfl rfl (by omega) (by omega) ?_;intro A7 c7 w7 hown7 hl7 hg7 _)
      | fail)
     have hown8:OwnB w7 w.heap.size A7 (4*k+4) c7 (O++le4 (xf+xs)):=by
      rw[←hle.out]
      exact QeD hown7
     rw[←HCS.out]at hown8
     have h9:=Qjc (h8.later J) (hown.later J) (by decide) hg7
     go_roundw
     case rel=>exact⟨k+1,A7,c7,by omega,by go_num,rfl,hown8,hl7,h9⟩
     case measure=>simp[intOf];omega
    ·obtain rfl:16=k:=by omega
     rw[←hC.out]at hown
     go_wp2_with fail
     go_ret2
     exact⟨_,_,rfl,hown,L⟩
def chaF (key:List UInt8) (k:Nat):List UInt8:=(QF6 k).flatMap fun i=>chaB key (QFu 12 0) (QF7 i)
theorem QfJ (key:List UInt8) (k:Nat):chaF key (k+1)=chaF key k++chaB key (QFu 12 0) (QF7 k):=by simp[chaF,QG4]
theorem QcN (key:List UInt8):∀k,(chaF key k).length=64*k
 | 0=>rfl
 | k+1=>by rw[QfJ,QFF,QcN key k,QjD];omega
def chaS (key:List UInt8) (n:Nat):List UInt8:=(chaF key ((n+63)/64)).take n
theorem QaA (key:List UInt8) (n:Nat):(chaS key n).length=n:=by
 rw[chaS,QFY,QcN]
 omega
theorem QnN (key:List UInt8) (k:Nat):∀j,∃r,chaF key (k+j)=chaF key k++r
 | 0=>⟨[],by simp⟩
 | j+1=>by
   obtain⟨r,h⟩:=QnN key k j
   exact⟨r++chaB key (QFu 12 0) (QF7 (k+j)),by rw[←QHx,QfJ,h,QFL]⟩
theorem QfV (key:List UInt8) (n k:Nat) (h:n≤64*k):chaS key n=(chaF key k).take n:=by
 obtain⟨r,hr⟩:=QnN key ((n+63)/64) (k-(n+63)/64)
 rw[Nat.add_sub_cancel' (by omega)]at hr
 rw[hr,chaS,QGt (by rw[QcN];omega)]
theorem Qnw {α:Type} (l r:List α) (m n:Nat) (h:l.length=m) (hm:m≤n):(l++r).take n=l++r.take (n-m):=by
 rw[List.take_append,h,QFJ (by omega)]
theorem QgD (k:Nat) (w:World):(convert 3 50 (.int .i64 (k:Int))).run Tryz.prog w= .ok (W32 (QF7 k)) w:=by
 have h:=run_convert_int (P:=Tryz.prog) (w:=w) 3 50 .i64 (k:Int) (by rw[Tryz.underlying3];rfl) (by unfold Program.intKind;rw[Tryz.underlying50])
 have e:Tryz.prog.intKind 50= .u32:=by unfold Program.intKind;rw[Tryz.underlying50]
 rw[e]at h
 refine h.trans ?_
 congr 1
set_option maxRecDepth 100000 in
set_option maxHeartbeats 4000000 in
theorem QmN (A:Option Addr) (c n:Nat) (key:List UInt8) (w:World) (hk:RdB w A 32 key) (hn:n≤65536):
 Calls Tryz.prog 176 #[.slice A 32 c,.int .i64 0,.int .i64 n] w fun e w'=>∃A' c',e= .returned (.slice A' n c')∧OwnB w' w.heap.size A' n c' (chaS key n)∧Later w w':=by
 have hB:=hid (fun B d ctr (w':World) (hl:Later w w') hn=>Quj A B c d key (QFu 12 0) ctr w' (hk.later hl) hn)
 have hs1:=hid (QfJ key)
 have hl1:=hid (QcN key)
 have hS:=hid (QfV key n)
 have hbl:=hid (fun ctr=>QjD key (QFu 12 0) ctr)
 have h0:=hid (show (chaF key 0).take 0=[] from rfl)
 go_enter Tryz.func176,Tryz.ntmps176
 go_wp2_with (first
  | (refine QaE rfl _ _ _ rfl 5 _ 1 Tryz.underlying25 Qbq rfl _ _ _ _ 12 rfl rfl rfl rfl (by omega) (by omega) ?_;intro w1 hb1 hl1')
  | (refine Qc1 rfl _ _ _ rfl 5 _ 1 Tryz.underlying25 Qbq rfl _ _ _ _ 0 n rfl rfl rfl rfl (by omega) (by omega) (by omega) ?_;intro w2 hown2 hl2)
  | fail)
 have hz1:=hl1'.size
 have hlt1:=hb1.lt
 have L2:=hl1'.trans hl2
 have hbase:w.heap.size<w1.heap.size:=hlt1
 have hown3:OwnB w2 w1.heap.size (some ⟨w1.heap.size,0,none⟩) 0 n ((chaF key 0).take 0):=by
  rw[h0.out]
  exact hown2
 have hno:RdB w1 (some ⟨w.heap.size,0,none⟩) 12 (QFu 12 0):=hb1.rd rfl
 clear hb1 hown2 L2 hz1
 have hL1:=hl2
 go_loopw [1,8] (fun at_ v wr=>∃(k m:Nat) (A':Option Addr) (c':Nat),at_= .int .i64 m∧v= .slice A' m c'∧m≤n∧m≤64*k∧(m<n→m=64*k)∧OwnB wr w1.heap.size A' m c' ((chaF key k).take m)∧Later w1 wr) (fun _ v _=>n-lenOf v)
 case atStart=>exact⟨0,0,_,_,rfl,rfl,by omega,by omega,fun _=>rfl,hown3,hL1⟩
 case round=>
  clear hown3 hL1 hl2
  obtain⟨k,m,A6,c6,rfl,rfl,hmn,hmk,hm64,hown,L⟩:=hrel
  by_cases hlt:m<n
  ·have hm:=hm64 hlt
   have hq:(m:Int)/64=(k:Int):=by omega
   have hr:(m:Int)%64=0:=by omega
   have hcv:=QgD k
   have hb:=hid (hs1.out k)
   have hBl:=hid (hbl.out (QF7 k))
   have HM:=hid hm
   have HFl:=hid (hl1.out k)
   clear hm hm64
   go_wp2_with fail
   (with_reducible refine (hB.out _ _ _ _ (hl1'.trans L) (hno.later L)).mono ?_);rintro e w4 ⟨A9,c9,rfl,hown9,j9⟩
   have hrd9:=hown9.rd
   have hcap:=hown9.cap
   have hcut:∀W,(Instr.sliceAt 25 (.slice A9 64 c9) (some (.int .i64 0)) none none).run Tryz.prog W= .ok (.slice A9 64 c9) W:=fun W=>by
    have h:=QgY A9 64 c9 .i64 0 (by omega) W
    simpa [QiN] using h
   generalize chaB key (QFu 12 0) (QF7 k)=Bk at *
   generalize chaF key k=Fk at *
   by_cases hbig:n-m<64
   ·obtain⟨q,hqn⟩:∃q,n=m+q:=⟨n-m,by omega⟩
    have hb1:((n:Int)-(m:Int))<64:=by omega
    have hcut2:∀W,(Instr.sliceAt 25 (.slice A9 64 c9) none (some (.int .i64 ((n:Int)-(m:Int)))) none).run Tryz.prog W= .ok (.slice A9 q c9) W:=fun W=>by
     rw[show (n:Int)-(m:Int)=(q:Int) by omega]
     exact QlG A9 64 c9 .i64 q (by omega) W
    have hq64:q<64:=by omega
    have hrq:=hrd9.take (m:=q) (by omega)
    have hmq:m+q≤65536:=by omega
    replace hqn:=hid hqn
    go_wp2_with (first
     | (refine Qal rfl _ _ _ rfl 5 _ 1 Tryz.underlying25 Qbq rfl w1 _ m _ (hown.later j9) (L.trans j9) A9 q c9 _ hrq (Qay _) rfl rfl (by omega) (by omega) ?_;intro A7 c7 w7 hown7 hl7 hg7 _)
     | fail)
    have hown8:=QeD hown7
    go_roundw
    case rel=>
     refine⟨k+1,m+q,A7,c7,by go_num,rfl,by have:=hqn.out;omega,by have:=HM.out;omega,fun h=>by have:=hqn.out;omega,?_,hl7⟩
     rw[hb.out,Qnw _ _ _ _ HFl.out (by have:=HM.out;omega),show m+q-64*k=q by have:=HM.out;omega]
     rw[QFJ (by rw[HFl.out,HM.out];omega)]at hown8
     exact hown8
    case measure=>have:=hqn.out;simp[lenOf];omega
   ·have hb1: ¬((n:Int)-(m:Int))<64:=by omega
    go_wp2_with (first
     | (refine Qal rfl _ _ _ rfl 5 _ 1 Tryz.underlying25 Qbq rfl w1 _ m _ (hown.later j9) (L.trans j9) A9 64 c9 _ hrd9 (Qay _) rfl rfl (by omega) (by omega) ?_;intro A7 c7 w7 hown7 hl7 hg7 _)
     | fail)
    have hown8:=QeD hown7
    go_roundw
    case rel=>
     refine⟨k+1,m+64,A7,c7,by go_num,rfl,by omega,by have:=HM.out;omega,fun h=>by have:=HM.out;omega,?_,hl7⟩
     rw[hb.out,Qnw _ _ _ _ HFl.out (by have:=HM.out;omega),show m+64-64*k=64 by have:=HM.out;omega,QFJ (by rw[hBl.out];omega)]
     rw[QFJ (by rw[HFl.out,HM.out];omega)]at hown8
     exact hown8
    case measure=>simp[lenOf];omega
  ·obtain rfl:n=m:=by omega
   have hE:=hid (hS.out k hmk)
   rw[←hE.out]at hown
   go_wp2_with fail
   go_ret
   exact⟨_,_,rfl,hown.mono (Nat.le_of_lt hbase),hl1'.trans L⟩
theorem QrW (A:Option Addr) (c n:Nat) (key:List UInt8) (w:World) (hk:RdB w A 32 key) (hn:n≤65536):
 Calls Tryz.prog 168 #[.slice A 32 c,.int .i64 n] w fun e w'=>∃A' c',e= .returned (.tuple #[.slice A' n c',.int .i64 0])∧OwnB w' w.heap.size A' n c' (chaS key n)∧Later w w':=by
 have hp:=hid (fun c (w:World) h=>QmN A c n key w h hn)
 go_enter Tryz.func168,Tryz.ntmps168
 go_wp2_with fail
 (with_reducible refine (hp.out _ _ hk).mono ?_);rintro e w1 ⟨A1,c1,rfl,ho1,j1⟩
 go_wp2_with fail
 go_ret2
 exact⟨_,_,rfl,ho1,j1⟩
end Go.Proofs.YtcbdgnlcknllnaaGreat
namespace Go.Proofs.YtcbdgnlcknllnaaGreat
open Go.RowKit
theorem QB2 {l:List UInt8} {i:Nat} {x:UInt8} (h:l[i]?=some x):(l.map W8)[i]?=some (W8 x):=by rw[QFN,h];rfl
theorem QBe:(305:TypeId)≠5:=by decide
theorem HashAt.grown {w w':World} {g base:Nat} {rest:List Value} {bs:List UInt8} {v:Value} {n:Nat} {vs:List Value} (h:HashAt w g 305 rest bs) (hown:w.ownsRow base 5 1 v n vs) (hg:w.grownBy w' v.ownBlock):HashAt w' g 305 rest bs:=by
 obtain⟨st,op,h1,h2⟩:=h
 exact⟨st,op,h1,Qjc h2 hown QBe hg⟩
theorem Qcv (q:List UInt8):[q].flatten=q:=by simp
theorem QiH {w:World} {base:Nat} {A:Option Addr} {n m c:Nat} {bs xs ys:List UInt8} (h:w.ownsRow base 5 1 (.slice A n c) n (xs.map W8++ys.map W8)) (hb:xs++ys=bs) (hn:n=m):OwnB w base A m c bs:=by
 subst hb
 subst hn
 rw[←QF2]at h
 exact h
def strB (s:ByteArray):List UInt8:=s.data.toList
theorem QgB (s:ByteArray):(strB s).length=s.size:=by simp[strB]
section
variable {P:Program} {ops:Array Oper} {rest:List Oper} {o:Oper} {a:Act} {w:World} {Q:Exit→Act→World→Prop}
theorem Qes (hgd:o.guard=none) (src dst:TypeId) (x:Operand) (ho:o.op= .convert src dst x) (e:TypeId) (hs:P.underlying src=some .string) (hd:P.underlying dst=some (.slice e)) (he:P.underlying e=some (.int .u8))
 (s:ByteArray) (hx:a.eval x= .string s)
 (h:∀c w',Later w w'→RdB w' (some ⟨w.heap.size,0,none⟩) s.size (strB s)→s.size≤c→w.heap.size<w'.heap.size→wpList P ops Q rest (a.put o.dst (.slice (some ⟨w.heap.size,0,none⟩) s.size c)) w'):wpList P ops Q (o :: rest) a w:=
 wpList_plain hgd fun K hK=>by
  have hr:=run_bytes_of_string (P:=P) w src dst e s hs hd he
  unfold Oper.wp execOp
  simp only[ho,hx,Sem.run_bind,hr,Result.andThen_ok,Sem.run_pure]
  refine hK _ _ (h _ _ ((Qab w).alloc _) ⟨by simp[strB],fun _=>⟨_,_,rfl,by simp,fun j u hu=>?_⟩⟩ (grownCap_ge w s.size 0 e) (by simp))
  rw[QFX]
  have hu':(s.data.toList.map W8)[j]?=some u:=hu
  have hj:j<s.data.size:=by have:=(QFU.1 hu').1;simpa using this
  have hc:(bytesRow s (grownCap w s.size 0 e))[j]?=some u:=by
   unfold bytesRow
   rw[Array.getElem?_append_left (by simpa using hj),Array.getElem?_map]
   rw[QFN,Array.getElem?_toList]at hu'
   exact hu'
  generalize bytesRow s (grownCap w s.size 0 e)=C at *
  unfold World.cell?
  have hb:(w.drew.alloc (.cells C e (C.size,C.size+1))).heap[w.heap.size]?=some (.cells C e (C.size,C.size+1)):=by
   show (w.heap.push _)[w.heap.size]?=_
   simp
  rw[hb]
  exact hc
end
end Go.Proofs.YtcbdgnlcknllnaaGreat
namespace Go.Proofs.YtcbdgnlcknllnaaGreat
open Go.RowKit
open Go.BigFrame
section
variable {P:Program} {ops:Array Oper} {rest:List Oper} {o:Oper} {a:Act} {w:World} {Q:Exit→Act→World→Prop} {α:Type} {F:α→List Value} {sz:Nat} {d:α}
theorem Qjx (hF:∀x,(F x).length=sz) (h0:0<sz) (hgd:o.guard=none) (s x:Operand) (t:TypeId) (ho:o.op= .call { callee:=.builtin .append,args:= #[s,x],argTypes:= #[t,t] })
 (e:TypeId) (z:Value) (bytes:Nat) (ht:P.underlying t=some (.slice e)) (hinfo:(P.info? e).map (fun i=>(i.zero,i.size,i.bytes))=some (some z,sz,bytes)) (hzs:z.cells.size=sz) (g:Nat)
 (A:Option Addr) (m c:Nat) (xs:List α) (hr:RdF F sz d w A m xs) (hs:a.eval s= .slice (some ⟨g,0,none⟩) 0 0) (hx:a.eval x= .slice A m c) (hsz:m*bytes≤140737488355328) (hby:0<bytes)
 (h:∀A' c' w',RdF F sz d w' A' m xs→Later w w'→wpList P ops Q rest (a.put o.dst (.slice A' m c')) w'):wpList P ops Q (o :: rest) a w:=by
 obtain⟨i,hi,hz,hsize,hbytes⟩:=info_parts hinfo
 have hm:m≤140737488355328:=QGh (QG0 _ hby) hsz
 refine wpList_plain hgd fun K hK=>?_
 rcases Nat.eq_zero_or_pos m with hm0|hm0
 ·subst hm0
  have hrun:(Builtin.append_ #[t,t] o.type #[.slice (some ⟨g,0,none⟩) 0 0,.slice A 0 c]).run P w= .ok (.slice (some ⟨g,0,none⟩) 0 0) w:=by
   cases A<;>simp[Builtin.append_,run_underlying ht,sizeOf,typeInfo,hi,Builtin.lenOf,Builtin.firstCells,loadCells,loadCellsFrom,storeCells]
  unfold Oper.wp execOp
  simp only[ho,resolve,invoke,builtin,Sem.run_bind,Sem.run_pure,Result.andThen_ok,QFI,QFW,QFR,hs,hx,hrun]
  exact hK _ _ (h _ _ _ ⟨hr.1,fun h=>absurd h (by omega)⟩ (Later.refl w))
 ·obtain⟨b,o2,rfl,_,_⟩:=hr.2 hm0
  have hlen:(xs.flatMap F).length=m*sz:=by rw[QeA hF,hr.1]
  have hrun:=run_append_grow (P:=P) w t o.type e i z ht hi hz ⟨g,0,none⟩ 0 0 [] (by simp) (by simp) ⟨b,o2,none⟩ m c (xs.flatMap F) (by rw[hsize,hlen]) (hr.cells hF h0) (by omega) (by omega) (growslice_fits (by omega) (by rw[hbytes,QFX];exact hsz))
  have hge:=grownCap_ge w (0+m) 0 e
  have hcm:grownCap w (0+m) 0 e≤maxLen:=grownCap_le_maxLen w (0+m) 0 e (by unfold maxLen;omega)
  unfold Oper.wp execOp
  simp only[ho,resolve,invoke,builtin,Sem.run_bind,Sem.run_pure,Result.andThen_ok,QFI,QFW,QFR,hs,hx,hrun]
  generalize grownCap w (0+m) 0 e=cp at *
  rw[QFX]at *
  have hown:(w.drew.alloc (.cells (#[]++(xs.flatMap F).toArray++Builtin.zeroCells z.cells (cp-m)) e)).ownsRow w.heap.size e sz (.slice (some ⟨w.heap.size,0,none⟩) m cp) m (xs.flatMap F):=by
   refine⟨hlen,.inr ⟨w.heap.size,_,_,rfl,QFE _,heap_alloc_new w.drew _,hge,hcm,?_,?_⟩⟩
   ·simp only[Array.size_append,List.size_toArray,size_zeroCells,hzs,hlen]
    rw[Nat.sub_mul,List.length_nil]
    have:=Nat.mul_le_mul_right sz hge
    omega
   ·simp only[Array.toList_append,←hlen]
    rw[QFz,List.take_left]
  exact hK _ _ (h _ _ _ (QgS hF hown hr.1) ((Qab w).trans (Qaa w.drew _)))
end
end Go.Proofs.YtcbdgnlcknllnaaGreat
