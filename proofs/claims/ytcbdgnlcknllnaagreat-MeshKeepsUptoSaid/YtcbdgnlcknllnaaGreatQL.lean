/-
  Lemmas for the last text of this claim (part 12 of 20).
-/
import Derived.ArgAppend
import Derived.BigQuiet
import Derived.BigRegion
import Derived.ChangeOld
import Derived.Deep.RegionWith
import Derived.DeepKeys4
import Derived.JoinedCond
import Derived.LaidMore
import Derived.Laws.CopyOwn
import Derived.Laws.Externs
import Derived.Laws.IdiomStrings
import Derived.Laws.Tables
import Derived.Lib.AppendStr
import Derived.Lib.AppendZerosOnto
import Derived.Lib.Mul64
import Derived.Lib.SlBytesConst
import Derived.LoopN
import Derived.Maps.OwnSet
import Derived.OpenShut
import Derived.OrdersHeld
import Derived.ProofKit
import Derived.Shelf.Spec.BitsCarry
import Derived.ShutString
import Derived.Test.YtcbdgnlcknllnaaGreatProg
import Derived.Test.YtcbdgnlcknllnaaGreatRows
import Derived.WalkKit
import Derived.WalkLawsBesides
import Derived.WalkSpells
import Derived.Test.YtcbdgnlcknllnaaGreatQB
import Derived.Test.YtcbdgnlcknllnaaGreatQC
import Derived.Test.YtcbdgnlcknllnaaGreatQE
import Derived.Test.YtcbdgnlcknllnaaGreatQF
import Derived.Test.YtcbdgnlcknllnaaGreatQJ
import Derived.Test.YtcbdgnlcknllnaaGreatQK
open Array renaming range → QAx
open Bool renaming and_eq_true → QyH
open List renaming replicate → Qyl, length_map → Qyo, getElem?_eq_getElem → Qyq, nil_append → Qyr, getD_eq_getElem?_getD → Qyt, map_toArray → Qyw, set_cons_zero → Qyx, set_cons_succ → Qyy, length_append → Qyz, take_of_length_le → QyA, getElem?_eq_some_iff → QyB, getElem?_append_right → QyC, map_nil → QyD, getElem?_map → QyF, getElem?_append_left → QyG, mem_cons → QyI, map_cons → QyJ, append_assoc → QyK, not_mem_nil → QyN, length_replicate → QyO, length_set → QyY, map_append → QyZ, range → Qy0, mem_map → Qy1, eq_nil_of_length_eq_zero → Qy4, all_eq_true → Qy6, mem_append → Qy8, take_append_drop → Qy9, take_append_of_le_length → Qza, drop_append_of_le_length → Qzc, length_cons → Qzd, getElem_mem → Qzk, flatMap_cons → Qzl, getElem?_eq_none → Qzo, replicate_succ → QzA, drop_succ_cons → QzB, all_cons → QzD, take_zero → QzK, nodup_cons → QzL, getElem?_take → QzO, getElem?_drop → QzP, mem_of_getElem? → QzS, drop_eq_nil_of_le → QzV, getElem?_range → QzX, any_eq_true → Qz6, range_succ → QAf, flatMap_append → QAg, drop_append → QAi
open Nat renaming le_refl → Qyv, zero_add → QyE, lt_of_lt_of_le → QyL, mod_lt → QyV, le_trans → QyX, mul_one → Qzb, le_mul_of_pos_right → Qzg, div_add_mod → Qzm, lt_or_ge → Qzn, mul_comm → Qzt, lt_of_le_of_lt → Qzw, add_zero → Qz3, eq_zero_or_pos → Qz5, zero_le → QAa, add_mul → QAr
open Option renaming map_some → Qzz, getD_some → QAh
open UInt8 renaming ofNat → Qy2, toNat_inj → Qz2, toNat_ofNat' → QAj
set_option linter.all false
namespace Go.Proofs.YtcbdgnlcknllnaaGreat
open Go.RowKit
structure Prt where
 kd:UInt8
 id:UInt64
 ix:Int
 ct:Int
 da:List UInt8
def prt0:Prt:=⟨0,0,0,0,[]⟩
def PaC (p:Prt) (v:Value):List Value:=[W8 p.kd,W64 p.id,.int .i64 p.ix,.int .i64 p.ct,v]
def prtE (p:Prt):Nat:=
 if p.kd<1∨3<p.kd then 1 else if 450<p.da.length then 2 else if p.ct<1∨16<p.ct∨p.ix<0∨p.ct≤p.ix then 3
 else if p.kd≠1∧p.ct≠1 then 3 else if p.kd=2∧(p.id≠0∨p.da.length≠0) then 3 else 0
abbrev Y16:={l:List UInt8 // l.length=16}
structure Cmd where
 kd:UInt8
 fl:UInt8
 dl:UInt32
 nx:UInt64
 ma:Y16
def Qa3:Y16:=⟨Qyl 16 0,by simp⟩
def cmd0:Cmd:=⟨0,0,0,0,Qa3⟩
def CC (c:Cmd):List Value:=W8 c.kd :: W8 c.fl :: W32 c.dl :: W64 c.nx :: c.ma.val.map W8
theorem Qao (c:Cmd):(CC c).length=20:=by simp[CC,c.ma.2]
theorem QtQ (c:Cmd):(CC c).drop 4=c.ma.val.map W8:=rfl
section
variable {α:Type}
theorem QbL {F:α→List Value} {sz:Nat} (hF:∀x,(F x).length=sz):∀xs:List α,(xs.flatMap F).length=xs.length*sz
 | []=>by simp
 | x :: xs=>by rw[Qzl,Qyz,hF,QbL hF xs,Qzd,QAr];omega
theorem QdK {F:α→List Value} {sz:Nat} (hF:∀x,(F x).length=sz) (d:α) {i:Nat} {v:Value}:∀(xs:List α) (j:Nat),j<xs.length→(F (xs.getD j d))[i]?=some v→(xs.flatMap F)[j*sz+i]?=some v
 | [],j,hj,_=>by simp at hj
 | x :: xs,0,_,hv=>by
   have hv':(F x)[i]?=some v:=by simpa using hv
   have hi:i<(F x).length:=(QyB.1 hv').1
   rw[Qzl,Nat.zero_mul,QyE,QyG hi]
   exact hv'
 | x :: xs,j+1,hj,hv=>by
   rw[Qzl,QyC (by rw[hF,QAr];omega),hF]
   have:=QdK hF d (i:=i) xs j (by simpa using hj) (by simpa using hv)
   rw[show (j+1)*sz+i-sz=j*sz+i by rw[QAr];omega]
   exact this
theorem Qr4 {F:α→List Value} {sz:Nat} (hF:∀x,(F x).length=sz) (d:α) (h0:0<sz) {q:Nat} {v:Value} {xs:List α} (h:(xs.flatMap F)[q]?=some v):q/sz<xs.length∧(F (xs.getD (q/sz) d))[q%sz]?=some v:=by
 have hq:q<xs.length*sz:=by
  have:=(QyB.1 h).1
  rwa [QbL hF]at this
 have hj:q/sz<xs.length:=(Nat.div_lt_iff_lt_mul h0).2 hq
 refine⟨hj,?_⟩
 have hr:q%sz<(F (xs.getD (q/sz) d)).length:=by rw[hF];exact QyV _ h0
 have e:=QdK hF d xs (q/sz) hj (Qyq hr)
 rw[show q/sz*sz+q%sz=q by rw[Qzt];exact Qzm q sz,h]at e
 rw[Qyq hr,←Option.some.inj e]
theorem QjC {F:α→List Value} {sz:Nat} (hF:∀x,(F x).length=sz) (d:α) {off:Nat} {vs:List Value} {y:α}:∀(xs:List α) (j:Nat),j<xs.length→off+vs.length≤sz→F y=Qan (F (xs.getD j d)) off vs→Qan (xs.flatMap F) (j*sz+off) vs=(xs.set j y).flatMap F
 | [],j,hj,_,_=>by simp at hj
 | x :: xs,0,_,ho,hy=>by
   have hx:=hF x
   rw[Qyx,Qzl,Qzl,hy,Nat.zero_mul,QyE]
   simp only[Qan,List.getD_cons_zero]
   rw[Qza (by omega),Qzc (by omega)]
   simp only[QyK]
 | x :: xs,j+1,hj,ho,hy=>by
   have ih:=QjC hF d (off:=off) (vs:=vs) (y:=y) xs j (by simpa using hj) ho (by simpa using hy)
   rw[Qyy,Qzl,Qzl,←ih]
   have hx:=hF x
   simp only[Qan]
   rw[List.take_append,QAi,QyA (by rw[hx,QAr];omega),QzV (by rw[hx,QAr];omega),hx,show (j+1)*sz+off-sz=j*sz+off by rw[QAr];omega,show (j+1)*sz+off+vs.length-sz=j*sz+off+vs.length by rw[QAr];omega]
   simp only[Qyr,QyK]
def RdF (F:α→List Value) (sz:Nat) (d:α) (w:World) (A:Option Addr) (n:Nat) (xs:List α):Prop:=
 xs.length=n∧(0<n→∃b o,A=some ⟨b,o,none⟩∧b<w.heap.size∧∀j i v,j<n→(F (xs.getD j d))[i]?=some v→w.cell? ⟨b,o+j*sz+i,none⟩=some v)
variable {F:α→List Value} {sz:Nat} {d:α} {w w':World} {A:Option Addr} {n:Nat} {xs:List α}
theorem RdF.later (h:RdF F sz d w A n xs) (hl:Later w w'):RdF F sz d w' A n xs:=by
 refine⟨h.1,fun hn=>?_⟩
 obtain⟨b,o,hA,hb,hc⟩:=h.2 hn
 exact⟨b,o,hA,QyL hb hl.size,fun j i v hj hv=>(hl.below.cell (p:=⟨b,o+j*sz+i,none⟩) hb).trans (hc j i v hj hv)⟩
theorem QfW (w:World):RdF F sz d w none 0 []:=⟨rfl,fun h=>absurd h (by omega)⟩
theorem RdF.at_ (h:RdF F sz d w A n xs) {k:Nat} (hk:k<n):
 ∃b o,A=some ⟨b,o,none⟩∧b<w.heap.size∧∀i v,(F (xs.getD k d))[i]?=some v→w.cell? ⟨b,o+k*sz+i,none⟩=some v:=by
 obtain⟨b,o,hA,hb,hc⟩:=h.2 (by omega)
 exact⟨b,o,hA,hb,fun i v hv=>hc k i v hk hv⟩
theorem RdF.cells (hF:∀x,(F x).length=sz) (h0:0<sz) {ad:Addr} (h:RdF F sz d w (some ad) n xs):∀q v,(xs.flatMap F)[q]?=some v→w.cell? (ad.add q)=some v:=by
 intro q v hv
 obtain⟨hj,hi⟩:=Qr4 hF d h0 hv
 rw[h.1]at hj
 obtain⟨b,o,hA,_,hc⟩:=h.2 (Qzw (QAa _) hj)
 obtain rfl:ad=⟨b,o,none⟩:=by simpa using hA
 rw[QbM]
 have:=hc _ _ _ hj hi
 rwa [Nat.add_assoc,show q/sz*sz+q%sz=q by rw[Qzt];exact Qzm q sz]at this
theorem Qev (hF:∀x,(F x).length=sz) {base c:Nat} {e:TypeId} (h:w.ownsRow base e sz (.slice A n c) n (xs.flatMap F)) (hn:xs.length=n):RdF F sz d w A n xs:=by
 refine⟨hn,fun h0=>?_⟩
 rcases h.2 with ⟨_,hz⟩|⟨g,cap,cur,hvv,hb,hh,hnc,hm,hs,ht⟩
 ·omega
 ·cases hvv
  refine⟨g,0,rfl,(h.lt g rfl).2,fun j i v hj hv=>?_⟩
  have hg:=h.cells (g:=g) rfl (j*sz+i) v (QdK hF d xs j (by omega) hv)
  rw[QbM]at hg
  rw[QyE]at hg ⊢
  exact hg
theorem Qgw (hF:∀x,(F x).length=sz) {g:Nat} {t:TypeId} (h:Blk w g t (xs.flatMap F)) (hn:xs.length=n):RdF F sz d w (some ⟨g,0,none⟩) n xs:=by
 refine⟨hn,fun _=>⟨g,0,rfl,h.lt,fun j i v hj hv=>?_⟩⟩
 rw[QyE]
 exact h.cellD _ (QdK hF d xs j (by omega) hv)
theorem Qhx {base:Nat} {e:TypeId} {v:Value} {vs:List Value} (h:w.ownsRow base e sz v n vs):∃A c,v= .slice A n c∧n≤c:=by
 rcases h.2 with ⟨rfl,rfl⟩|⟨g,cap,cur,rfl,_,_,hnc,_⟩
 ·exact⟨none,0,rfl,Qyv _⟩
 ·exact⟨_,_,rfl,hnc⟩
theorem QaF {base:Nat} {e:TypeId} {v:Value} {vs:List Value} (h:w.ownsRow base e sz v n vs) (hl:Later w w'):w'.ownsRow base e sz v n vs:=
 h.kept (row:=none) ⟨hl.below.os,hl.below.tape,hl.below.output,hl.size,fun k hk _=>hl.below.block k hk⟩ (by cases v.ownBlock<;>simp)
end
section
variable {P:Program} {ops:Array Oper} {rest:List Oper} {o:Oper} {a:Act} {w:World} {Q:Exit→Act→World→Prop} {α:Type} {F:α→List Value} {sz:Nat} {d:α}
theorem Qcy (hF:∀x,(F x).length=sz) (hF1:∀x,∀u∈F x,u.oneCell'=true) (h0:0<sz) (hgd:o.guard=none) (s x:Operand) (t:TypeId) (ho:o.op= .call { callee:=.builtin .append,args:= #[s,x],argTypes:= #[t,t] })
 (e:TypeId) (z:Value) (bytes:Nat) (ht:P.underlying t=some (.slice e)) (hinfo:(P.info? e).map (fun i=>(i.zero,i.size,i.bytes))=some (some z,sz,bytes)) (hzs:z.cells.size=sz)
 (w0:World) (v:Value) (n:Nat) (vs:List Value) (hown:w.ownsRow w0.heap.size e sz v n vs) (hl:Later w0 w)
 (A:Option Addr) (m c:Nat) (xs:List α) (hr:RdF F sz d w A m xs) (hs:a.eval s=v) (hx:a.eval x= .slice A m c) (hsz:(n+m)*bytes≤140737488355328) (hby:0<bytes)
 (h:∀A' c' w',w'.ownsRow w0.heap.size e sz (.slice A' (n+m) c') (n+m) (vs++xs.flatMap F)→Later w0 w'→w.grownBy w' v.ownBlock→wpList P ops Q rest (a.put o.dst (.slice A' (n+m) c')) w'):
 wpList P ops Q (o :: rest) a w:=by
 obtain⟨i,hi,hz,hsize,hbytes⟩:=info_parts hinfo
 have hnm:n+m≤140737488355328:=QyX (Qzg _ hby) hsz
 have hmax:n+m≤maxLen:=by unfold maxLen;omega
 have hfin:∀v' w',(Builtin.append_ #[t,t] o.type #[v,.slice A m c]).run P w= .ok v' w'→w'.ownsRow w0.heap.size e sz v' (n+m) (vs++xs.flatMap F)→w.grownBy w' v.ownBlock→wpList P ops Q (o :: rest) a w:=by
  intro v' w' hrun hown' hg
  refine wpList_plain hgd fun K hK=>?_
  unfold Oper.wp execOp
  simp only[ho,resolve,invoke,builtin,Sem.run_bind,Sem.run_pure,Result.andThen_ok,Qyw,QyJ,QyD,hs,hx,hrun]
  have hlat:Later w0 w':=hl.grownBy hg (fun k hk=>(hown.lt k hk).1)
  obtain⟨A',c',rfl,_⟩:=Qhx hown'
  exact hK _ _ (h A' c' w' hown' hlat hg)
 have hlen:(xs.flatMap F).length=m*sz:=by rw[QbL hF,hr.1]
 cases A with
 | some ad=>
   have h1:∀u∈xs.flatMap F,u.oneCell'=true:=by
    intro u hu
    obtain⟨x,_,hx⟩:=List.mem_flatMap.1 hu
    exact hF1 x u hx
   obtain⟨v',w',hrun,h2,h3,_⟩:=run_append_own (P:=P) w w0.heap.size t o.type e i z sz bytes ht hi hz hsize hbytes hzs h0 v n vs hown ad m c _ hlen (hr.cells hF h0) h1 hmax hsz hl.size
   exact hfin v' w' hrun h2 h3
 | none=>
   have hm:m=0:=by
    rcases Qz5 m with h0|h0
    ·exact h0
    ·obtain⟨b,off,hA,_⟩:=hr.2 h0
     cases hA
   subst hm
   have hn:xs=[]:=Qy4 hr.1
   subst hn
   have hrun:(Builtin.append_ #[t,t] o.type #[v,.slice none 0 c]).run P w= .ok v w:=by
    rcases hown.2 with ⟨rfl,rfl⟩|⟨g,cap,cur,rfl,_,_,hnc,_⟩
    ·simp[Builtin.append_,run_underlying ht,sizeOf,typeInfo,hi,Builtin.lenOf,Builtin.firstCells]
    ·simp[Builtin.append_,run_underlying ht,sizeOf,typeInfo,hi,Builtin.lenOf,Builtin.firstCells,hnc,storeCells]
   exact hfin v w hrun (by simpa using hown) (World.grownBy.refl w _)
end
section
variable {P:Program}
theorem QhT {t e:TypeId} {sz:Nat} {z v:Value} {vs:List Value} (ht:P.underlying t=some (.slice e)) (hz:(P.info? e).map (fun i=>(i.zero,i.size))=some (some z,sz)) (hs0:0<sz) (hsm:sz≤65536) (hv:v.cells=vs.toArray) (hvl:vs.length=sz) (w:World):
 (Instr.buildSlice t 1 #[(0,v)]).run P w= .ok (.slice (some ⟨w.heap.size,0,none⟩) 1 1) (w.alloc (.cells vs.toArray e)):=by
 cases hi:P.info? e with
 | none=>simp[hi]at hz
 | some i=>
   simp only[hi,Qzz,Option.some.injEq,Prod.mk.injEq]at hz
   obtain⟨h1,h2⟩:=hz
   have hso:(sizeOf e).run P w= .ok sz w:=by simp[sizeOf,typeInfo,hi,h2]
   have hzv:(zeroValue e).run P w= .ok z w:=by simp[zeroValue,typeInfo,hi,h1]
   have hl:((QAx (1*sz)).map fun x=>z.cells[x%z.cells.size]!)=((QAx (1*sz)).map fun x=>z.cells[x%z.cells.size]!).toList.toArray:=rfl
   have hll:((QAx (1*sz)).map fun x=>z.cells[x%z.cells.size]!).toList.length=sz:=by simp
   have hf:Instr.fill (fun i=>some (i*sz,sz)) ((QAx (1*sz)).map fun x=>z.cells[x%z.cells.size]!) [(0,v)]=some vs.toArray:=by
    rw[hl]
    rw[QaH (vs:=vs) (off:=0) hv (by rw[hvl,Nat.zero_mul]) (by rw[hll];omega),Qbs,Qap _ _ (by rw[hll,hvl])]
   unfold Instr.buildSlice
   simp only[Sem.run_bind,run_underlying ht,Result.andThen_ok,hso,Nat.one_mul]
   rw[if_neg (by omega),if_neg (by omega)]
   simp only[Nat.one_mul]at hf
   simp only[Sem.run_bind,hzv,Result.andThen_ok,Sem.run_pure,hf]
   simp[newRow]
end
section
variable {P:Program} {ops:Array Oper} {rest:List Oper} {o:Oper} {a:Act} {w:World} {Q:Exit→Act→World→Prop}
end
def RdK (sz:Nat) (w:World) (A:Option Addr) (n:Nat) (xs:List (List UInt8)):Prop:=
 xs.length=n∧(0<n→∃b o,A=some ⟨b,o,none⟩∧b<w.heap.size∧∀j i v,j<n→((xs.getD j []).map W8)[i]?=some v→w.cell? ⟨b,o+j*sz+i,none⟩=some v)
theorem RdK.later {sz:Nat} {w w':World} {A:Option Addr} {n:Nat} {xs:List (List UInt8)} (h:RdK sz w A n xs) (hl:Later w w'):RdK sz w' A n xs:=by
 refine⟨h.1,fun hn=>?_⟩
 obtain⟨b,o,hA,hb,hc⟩:=h.2 hn
 exact⟨b,o,hA,QyL hb hl.size,fun j i v hj hv=>(hl.below.cell (p:=⟨b,o+j*sz+i,none⟩) hb).trans (hc j i v hj hv)⟩
theorem RdK.at_ {sz:Nat} {w:World} {A:Option Addr} {n:Nat} {xs:List (List UInt8)} (h:RdK sz w A n xs) {k:Nat} (hk:k<n):
 ∃b o,A=some ⟨b,o,none⟩∧b<w.heap.size∧∀j v,((xs.getD k []).map W8)[j]?=some v→w.cell? ⟨b,o+k*sz+j,none⟩=some v:=by
 obtain⟨b,o,hA,hb,hc⟩:=h.2 (by omega)
 exact⟨b,o,hA,hb,fun j v hv=>hc k j v hk hv⟩
theorem RdK.sub {sz:Nat} {w:World} {A:Option Addr} {n:Nat} {xs:List (List UInt8)} (h:RdK sz w A n xs) {k:Nat} (hk:k<n):
 ∃b o,A=some ⟨b,o,none⟩∧b<w.heap.size∧∀(w':World),Later w w'→∀(off m:Nat) (r:List UInt8),subB (xs.getD k []) off m=r→∀j v,(r.map W8)[j]?=some v→w'.cell? ⟨b,o+k*sz+off+j,none⟩=some v:=by
 obtain⟨b,o,hA,hb,hc⟩:=h.2 (by omega)
 refine⟨b,o,hA,hb,fun w' hl off m r hr j v hv=>?_⟩
 rw[QyF,Option.map_eq_some_iff]at hv
 obtain⟨x,hx,rfl⟩:=hv
 rw[←hr]at hx
 refine (hl.below.cell (p:=⟨b,o+k*sz+off+j,none⟩) hb).trans ?_
 have:=hc k (off+j) (W8 x) hk (by rw[QyF,Ql4 hx];rfl)
 rwa [←Nat.add_assoc]at this
theorem Qd7 {w w':World} {base g sz:Nat} {e t:TypeId} {v:Value} {n:Nat} {vs l:List Value} (hb:Blk w g t l) (h:w.ownsRow base e sz v n vs) (hne:t≠e) (hg:w.grownBy w' v.ownBlock):Blk w' g t l:=by
 refine (hg.block g hb.lt ?_).trans hb
 rcases h.2 with ⟨rfl,_⟩|⟨g2,c2,cur2,rfl,_,hh2,_⟩
 ·simp[Value.ownBlock]
 ·intro he
  simp only[Value.ownBlock,Option.some.injEq]at he
  subst he
  exact hb.ne_type (l':=cur2.toList) (t':=e) hh2 hne rfl
theorem QaM {w w':World} {base k sz:Nat} {e t:TypeId} {v:Value} {n:Nat} {vs l:List Value} (h:w.ownsRow base e sz v n vs) (hb:Blk w k t l) (hne:t≠e) (ho:Only k w w'):w'.ownsRow base e sz v n vs:=by
 refine h.kept ho ?_
 rcases h.2 with ⟨rfl,_⟩|⟨g2,c2,cur2,rfl,_,hh2,_⟩
 ·exact .inl rfl
 ·refine .inr fun he=>?_
  simp only[Value.ownBlock,Option.some.injEq]at he
  subst he
  exact hb.ne_type (l':=cur2.toList) (t':=e) hh2 hne rfl
theorem Qcx {w w':World} {b1 b2 s1 s2:Nat} {e1 e2:TypeId} {v1 v2:Value} {n1 n2:Nat} {x1 x2:List Value} (h1:w.ownsRow b1 e1 s1 v1 n1 x1) (h2:w.ownsRow b2 e2 s2 v2 n2 x2) (hne:e1≠e2) (hg:w.grownBy w' v2.ownBlock):
 w'.ownsRow b1 e1 s1 v1 n1 x1:=by
 refine h1.kept hg ?_
 rcases h1.2 with ⟨rfl,_⟩|⟨g1,c1,cur1,rfl,_,hh1,_⟩
 ·exact .inl rfl
 ·right
  rcases h2.2 with ⟨rfl,_⟩|⟨g2,c2,cur2,rfl,_,hh2,_⟩
  ·simp[Value.ownBlock]
  ·intro hb
   simp only[Value.ownBlock,Option.some.injEq]at hb
   subst hb
   rw[hh1]at hh2
   injection hh2 with hh2
   injection hh2 with _ h
   exact hne h
theorem Bag.grown {w wk v':World} {ls:List (Nat×TypeId×List Value)} {base sz:Nat} {e:TypeId} {v:Value} {n:Nat} {vs:List Value} (h:Bag w wk ls) (hown:wk.ownsRow base e sz v n vs) (hne:∀p∈ls,p.2.1≠e) (hb:w.heap.size≤base) (hg:wk.grownBy v' v.ownBlock):Bag w v' ls:=
 ⟨h.lat.grownBy hg (fun k hk=>QyX hb (hown.lt k hk).1),fun p hp=>Qd7 (h.blk p hp) hown (hne p hp) hg,h.low,h.nd⟩
end Go.Proofs.YtcbdgnlcknllnaaGreat
namespace Go.Proofs.YtcbdgnlcknllnaaGreat
open Go.RowKit
open Go.BigFrame
abbrev pz0:List Value:=[.int .u8 0,.int .u64 0,.int .i64 0,.int .i64 0,.slice none 0 0]
theorem Qr8:(Tryz.prog.info? 36).bind (·.zero)=some (.agg (PaC prt0 (.slice none 0 0)).toArray):=by kernel_rfl
theorem Qdf:(Tryz.prog.info? 36).map (·.size)=some 5:=by kernel_rfl
theorem QaD (p:Prt) (v:Value):(PaC p v).length=5:=rfl
theorem Qgp (p:Prt) {v:Value} (h:v.oneCell'=true):∀u∈PaC p v,u.oneCell'=true:=by
 intro u hu
 simp only[PaC,QyI,QyN,or_false]at hu
 rcases hu with rfl|rfl|rfl|rfl|rfl<;>first|rfl|exact h
theorem Qqb:Tryz.prog.built 36 []=some (PaC prt0 (.slice none 0 0)).toArray:=by
 rw[QaN (pl:=[(0,1),(1,1),(2,1),(3,1),(4,1)]) Tryz.underlying36 Qr8 (by kernel_rfl),Qbs]
theorem Qpf (kd:UInt8) (id:UInt64) (ix ct:Int):Tryz.prog.built 36 [(0,W8 kd),(1,W64 id),(2,.int .i64 ix),(3,.int .i64 ct)]=some (PaC ⟨kd,id,ix,ct,[]⟩ (.slice none 0 0)).toArray:=by
 rw[QaN (pl:=[(0,1),(1,1),(2,1),(3,1),(4,1)]) Tryz.underlying36 Qr8 (by kernel_rfl),QaH (vs:=[W8 kd]) (off:=0) rfl rfl (by simp[PaC]),QaH (vs:=[W64 id]) (off:=1) rfl rfl (by simp[PaC,Qan]),QaH (vs:=[.int .i64 ix]) (off:=2) rfl rfl (by simp[PaC,Qan]),QaH (vs:=[.int .i64 ct]) (off:=3) rfl rfl (by simp[PaC,Qan]),Qbs]
 rfl
section
variable {ops:Array Oper} {rest:List Oper} {o:Oper} {a:Act} {w:World} {Q:Exit→Act→World→Prop}
theorem Qbm (hgd:o.guard=none) (hd:o.dst=none) (x y:Operand) (ho:o.op= .store 36 x y) {g:Nat} {t:TypeId} {l:List Value} {p:Prt} {v:Value} (hg:Blk w g t l) (hx:a.eval x= .pointer (some ⟨g,0,none⟩)) (hy:a.eval y= .agg (PaC p v).toArray) (hv:v.oneCell'=true) (hl:l.length=5)
 (h:∀w',Blk w' g t (PaC p v)→Only g w w'→wpList Tryz.prog ops Q rest a w'):wpList Tryz.prog ops Q (o :: rest) a w:=
 Qae hgd hd _ x y ho g t l _ hg hx hy 5 Qdf rfl hl (Qgp p hv) h
theorem QdI (hw:Region.wanted o (yielded ops a.tmps)=true) (x:Operand) (ho:o.op= .load 36 x) {g:Nat} {t:TypeId} {p:Prt} {v:Value} (hb:Blk w g t (PaC p v)) (hx:a.eval x= .pointer (some ⟨g,0,none⟩))
 (h:wpList Tryz.prog ops Q rest (a.put o.dst (.agg (PaC p v).toArray)) w):wpList Tryz.prog ops Q (o :: rest) a w:=
 Qam hw _ x ho g 0 _ (fun j v hv=>by rw[QyE];exact hb.cellD _ hv) hx _ Tryz.underlying36 rfl (by rw[QaD];exact Qdf) h
end
theorem Qde {w:World} {g:Nat} {t:TypeId} {p:Prt} {v:Value} (h:Blk w g t (PaC p v)):w.cell? ⟨g,0,none⟩=some (W8 p.kd)∧w.cell? ⟨g,1,none⟩=some (W64 p.id)∧w.cell? ⟨g,2,none⟩=some (.int .i64 p.ix)∧w.cell? ⟨g,3,none⟩=some (.int .i64 p.ct)∧w.cell? ⟨g,4,none⟩=some v:=
 ⟨h.cellD 0 rfl,h.cellD 1 rfl,h.cellD 2 rfl,h.cellD 3 rfl,h.cellD 4 rfl⟩
theorem Qrw (k:UInt8):k=1∨k=2∨k=3∨(k<1∨3<k):=by
 have e1:(1:UInt8).toNat=1:=rfl
 have e2:(2:UInt8).toNat=2:=rfl
 have e3:(3:UInt8).toNat=3:=rfl
 rw[UInt8.lt_iff_toNat_lt,UInt8.lt_iff_toNat_lt,←Qz2,←Qz2,←Qz2]
 omega
theorem QvD (id:UInt64) (ix ct:Int) (da:List UInt8):prtE ⟨1,id,ix,ct,da⟩=if 450<da.length then 2 else if ct<1∨16<ct∨ix<0∨ct≤ix then 3 else 0:=by
 rw[prtE,if_neg (show ¬((1:UInt8)<1∨3<(1:UInt8)) by decide)]
 simp
theorem Qvc (id:UInt64) (ix ct:Int) (da:List UInt8):prtE ⟨2,id,ix,ct,da⟩=if 450<da.length then 2 else if ct<1∨16<ct∨ix<0∨ct≤ix then 3 else if ct≠1 then 3 else if id≠0∨da.length≠0 then 3 else 0:=by
 rw[prtE,if_neg (show ¬((2:UInt8)<1∨3<(2:UInt8)) by decide)]
 simp
theorem Qvf (id:UInt64) (ix ct:Int) (da:List UInt8):prtE ⟨3,id,ix,ct,da⟩=if 450<da.length then 2 else if ct<1∨16<ct∨ix<0∨ct≤ix then 3 else if ct≠1 then 3 else 0:=by
 rw[prtE,if_neg (show ¬((3:UInt8)<1∨3<(3:UInt8)) by decide)]
 simp
theorem Qrl {p:Prt} (h:p.kd<1∨3<p.kd):prtE p=1:=by rw[prtE,if_pos h]
set_option maxRecDepth 100000 in
set_option maxHeartbeats 4000000 in
theorem Qho (p:Prt) (A:Option Addr) (n c:Nat) (hn:p.da.length=n) (w:World):Calls Tryz.prog 64 #[.agg (PaC p (.slice A n c)).toArray] w fun e w'=>e= .returned (.int .i64 (prtE p:Nat))∧Later w w':=by
 obtain⟨kd,id,ix,ct,da⟩:=p
 simp only at hn
 have hb:Blk (w.alloc (.cells (PaC ⟨kd,id,ix,ct,da⟩ (.slice A n c)).toArray 36)) w.heap.size 36 (PaC ⟨kd,id,ix,ct,da⟩ (.slice A n c)):=Blk.new _ _ _
 obtain⟨c0,c1,c2,c3,c4⟩:=Qde hb
 have L:=Qaa w (.cells (PaC ⟨kd,id,ix,ct,da⟩ (.slice A n c)).toArray 36)
 clear hb
 obtain⟨E,hE⟩:∃E,prtE ⟨kd,id,ix,ct,da⟩=E:=⟨_,rfl⟩
 rw[hE]
 rcases Qrw kd with rfl|rfl|rfl|hbad
 case inr.inr.inr=>
  have HE:=hid (hE.symm.trans (Qrl (p:=⟨kd,id,ix,ct,da⟩) hbad))
  clear hE
  rcases hbad with h|h
  ·go_enter Tryz.func64,Tryz.ntmps64
   go_wp2_with fail
   go_ret
   exact⟨by rw[HE.out];rfl,L⟩
  ·by_cases h1:kd<1
   all_goals
    go_enter Tryz.func64,Tryz.ntmps64
    go_wp2_with fail
    go_ret
    exact⟨by rw[HE.out];rfl,L⟩
 all_goals
  have HE:=hE.symm.trans (by first|exact QvD id ix ct da|exact Qvc id ix ct da|exact Qvf id ix ct da)
  rw[hn]at HE
  replace HE:=hid HE
  clear hE
  by_cases h2:450<n
  ·have hd:decide ((450:Int)<(n:Int))=true:=decide_eq_true (by omega)
   replace HE:=hid (HE.out.trans (if_pos h2))
   go_enter Tryz.func64,Tryz.ntmps64
   go_wp2_with fail
   go_ret
   exact⟨by rw[HE.out];rfl,L⟩
  have hd:decide ((450:Int)<(n:Int))=false:=decide_eq_false (by omega)
  replace HE:=hid (HE.out.trans (if_neg h2))
  by_cases h3:ct<1∨16<ct∨ix<0∨ct≤ix
  ·replace HE:=hid (HE.out.trans (if_pos h3))
   by_cases k1:ct<1
   ·go_enter Tryz.func64,Tryz.ntmps64
    go_wp2_with fail
    go_ret
    exact⟨by rw[HE.out];rfl,L⟩
   by_cases k2:16<ct
   ·go_enter Tryz.func64,Tryz.ntmps64
    go_wp2_with fail
    go_ret
    exact⟨by rw[HE.out];rfl,L⟩
   by_cases k3:ix<0
   ·go_enter Tryz.func64,Tryz.ntmps64
    go_wp2_with fail
    go_ret
    exact⟨by rw[HE.out];rfl,L⟩
   have k4:ct≤ix:=by omega
   go_enter Tryz.func64,Tryz.ntmps64
   go_wp2_with fail
   go_ret
   exact⟨by rw[HE.out];rfl,L⟩
  replace HE:=hid (HE.out.trans (if_neg h3))
  have k1: ¬ct<1:=by omega
  have k2: ¬ 16<ct:=by omega
  have k3: ¬ix<0:=by omega
  have k4: ¬ct≤ix:=by omega
  clear h3
 ·go_enter Tryz.func64,Tryz.ntmps64
  go_wp2_with fail
  go_ret
  exact⟨by rw[HE.out];rfl,L⟩
 all_goals
  by_cases h4:ct=1
  case neg=>
   have hd4:(ct != 1)=true:=by simpa using h4
   replace HE:=hid (HE.out.trans (if_pos h4))
   go_enter Tryz.func64,Tryz.ntmps64
   go_wp2_with fail
   go_ret
   exact⟨by rw[HE.out];rfl,L⟩
  subst h4
  replace HE:=hid (HE.out.trans (if_neg (by simp)))
 ·cases e1:(id==0)
  ·have n1:(id != 0)=true:=by rw[bne,e1];rfl
   have hne:id≠0:=by simpa using e1
   replace HE:=hid (HE.out.trans (if_pos (.inl hne)))
   go_enter Tryz.func64,Tryz.ntmps64
   go_wp2_with fail
   go_ret
   exact⟨by rw[HE.out];rfl,L⟩
  ·have n1:(id != 0)=false:=by rw[bne,e1];rfl
   have heq:id=0:=by simpa using e1
   by_cases h5:n=0
   ·replace HE:=hid (HE.out.trans (if_neg (by simp[heq,h5])))
    have n2:((n:Int) != 0)=false:=by simp[h5]
    clear h5 heq
    go_enter Tryz.func64,Tryz.ntmps64
    go_wp2_with fail
    go_ret
    exact⟨by rw[HE.out];rfl,L⟩
   ·replace HE:=hid (HE.out.trans (if_pos (.inr h5)))
    have n2:((n:Int) != 0)=true:=by simp;omega
    clear h5 heq
    go_enter Tryz.func64,Tryz.ntmps64
    go_wp2_with fail
    go_ret
    exact⟨by rw[HE.out];rfl,L⟩
 ·go_enter Tryz.func64,Tryz.ntmps64
  go_wp2_with fail
  go_ret
  exact⟨by rw[HE.out];rfl,L⟩
def allZ (bs:List UInt8):Bool:=bs.all (· ==0)
theorem QiC:∀(bs:List UInt8),allZ bs=true↔bs=Qyl bs.length 0
 | []=>by simp[allZ]
 | b :: bs=>by
   have ih:=QiC bs
   rw[allZ]at ih
   rw[allZ,QzD,QyH,ih,Qzd,QzA,List.cons.injEq,beq_iff_eq]
theorem Qta {bs:List UInt8} {k:Nat} (hk:k<bs.length) (h:bs.getD k 0≠0):allZ bs=false:=by
 rw[allZ,List.all_eq_false]
 refine⟨bs[k],Qzk hk,?_⟩
 rw[Qyt,Qyq hk]at h
 simpa using h
theorem QqR {bs:List UInt8} (h:∀k,k<bs.length→bs.getD k 0=0):allZ bs=true:=by
 rw[allZ,Qy6]
 intro x hx
 obtain⟨k,hk,rfl⟩:=List.getElem_of_mem hx
 have:=h k hk
 rw[Qyt,Qyq hk]at this
 simpa using this
set_option maxRecDepth 100000 in
theorem Ql3 (A:Option Addr) (n c:Nat) (bs:List UInt8) (w:World) (hb:RdB w A n bs) (hn:n≤140737488355328):
 Calls Tryz.prog 61 #[.slice A n c] w fun e w'=>e= .returned (.bool (allZ bs))∧Later w w':=by
 have hl:=hb.len
 go_enter Tryz.func61,Tryz.ntmps61
 go_wp2
 go_loopw [7] (fun i wr=>∃k:Nat,i= .int .i64 k∧k≤n∧Hid (∀ j,j<k→bs.getD j 0=0)∧Later w wr) (fun i _=>n-(intOf i).toNat)
 case atStart=>exact⟨0,rfl,by omega,hid (fun j hj=>absurd hj (by omega)),Later.refl w⟩
 case round=>
  obtain⟨k,rfl,hk,hp,L⟩:=hrel
  by_cases hlt:k<n
  ·obtain⟨b,o,rfl,hb2,hc2⟩:=RdB.at_ (hb.later L) (by omega)
   have c1:=hc2 k hlt
   have hno:=hid (fun h=>Qta (bs:=bs) (k:=k) (by omega) h)
   have hgo:=hid (fun h:bs.getD k 0=0=>Qdd (p:=fun j=>bs.getD j 0=0) hp.out h)
   clear hc2
   generalize bs.getD k 0=x at *
   cases hx:(x==0)
   ·have n1:(x != 0)=true:=by rw[bne,hx];rfl
    have hE:=hid (hno.out (by simpa using hx))
    go_wp2
    go_ret
    exact⟨by rw[hE.out];rfl,L⟩
   ·have n1:(x != 0)=false:=by rw[bne,hx];rfl
    have hG:=hid (hgo.out (by simpa using hx))
    go_wp2
    exact⟨⟨k+1,by go_num,by omega,hG,L⟩,by simp[intOf];omega⟩
  ·obtain rfl:k=n:=by omega
   have hE:=hid (QqR (bs:=bs) (by rw[hl];exact hp.out))
   go_wp2
   go_ret
   exact⟨by rw[hE.out];rfl,L⟩
set_option maxRecDepth 100000 in
theorem Qh4 (A:Option Addr) (n c:Nat) (bs:List UInt8) (w:World) (hb:RdB w A n bs) (hn:n≤1048576):
 Calls Tryz.prog 63 #[.slice A n c] w fun e w'=>e= .returned (.slice (some ⟨w.heap.size,0,none⟩) n n)∧Blk w' w.heap.size 5 (bs.map W8)∧Later w w':=by
 have hl:=hb.len
 go_enter Tryz.func63,Tryz.ntmps63
 go_wp2_with (first
  | (refine QaT rfl _ _ _ rfl 5 _ 1 Tryz.underlying25 QcG rfl _ _ _ _ n rfl rfl rfl rfl (by omega) (by omega) ?_;intro w1 hb1 hl1)
  | (refine Qaq rfl _ _ _ _ rfl 5 Tryz.underlying25 Qbo w.heap.size 0 n n _ _ hb1 A n c (bs.map W8) (RdB.later hb hl1) (QaC _) rfl rfl (by simp) ?_;intro w4 hb4 ho4
     rw[QyA (by rw[Qyo,hl];omega),Qap _ _ (by rw[Qyo,QyO,hl])]at hb4)
  | fail)
 go_ret
 exact⟨rfl,hb4,hl1.only ho4 (Qyv _)⟩
end Go.Proofs.YtcbdgnlcknllnaaGreat
namespace Go.Proofs.YtcbdgnlcknllnaaGreat
open Go.RowKit
abbrev pid (q:Prt):Prt:=q
section
variable {α:Type} (pr:α→Prt)
def tkE (id:UInt64) (ks:List α) (p:Prt):Nat:=
 if p.kd≠1∨prtE p≠0 then 3 else if p.id≠id then 4 else if ks.any (fun q=>(pr q).ct != p.ct||(pr q).ix==p.ix) then 3 else 0
def tkK (id:UInt64) (ks:List α) (x:α):List α:=if tkE pr id ks (pr x)=0 then ks++[x] else ks
def tksK (id:UInt64) (ks xs:List α):List α:=xs.foldl (tkK pr id) ks
theorem Qp0 (id:UInt64) (ks xs:List α) (x:α):tksK pr id ks (xs++[x])=tkK pr id (tksK pr id ks xs) x:=by simp[tksK]
end
structure KeptOk (ks:List Prt):Prop where
 good:∀q∈ks,q.kd=1∧prtE q=0
 same:∀q∈ks,∀r∈ks,q.ct=r.ct
 nd:(ks.map (·.ix)).Nodup
theorem Qns:KeptOk []:=⟨by simp,by simp,by simp⟩
theorem QgM {p:Prt} (h:prtE p=0):1≤p.ct∧p.ct≤16∧0≤p.ix∧p.ix<p.ct∧p.da.length≤450:=by
 unfold prtE at h
 split at h
 ·cases h
 split at h
 ·cases h
 split at h
 ·cases h
 rename_i h1 h2 h3
 omega
theorem Qis {id:UInt64} {ks:List Prt} {p:Prt} (h:tkE pid id ks p=0):p.kd=1∧prtE p=0∧p.id=id∧(∀ q∈ks,q.ct=p.ct∧q.ix≠p.ix):=by
 unfold tkE at h
 split at h
 ·cases h
 split at h
 ·cases h
 split at h
 ·cases h
 rename_i h1 h2 h3
 refine⟨Classical.not_not.1 fun hc=>h1 (.inl hc),Classical.not_not.1 fun hc=>h1 (.inr hc),Classical.not_not.1 h2,fun q hq=>?_⟩
 have h4:(q.ct != p.ct||q.ix==p.ix)=false:=by
  cases hb:(q.ct != p.ct||q.ix==p.ix) with
  | false=>rfl
  | true=>exact absurd (Qz6.2 ⟨q,hq,hb⟩) h3
 simp only[Bool.or_eq_false_iff,bne_eq_false_iff_eq,beq_eq_false_iff_ne]at h4
 exact h4
theorem KeptOk.snoc {id:UInt64} {ks:List Prt} {p:Prt} (h:KeptOk ks):KeptOk (tkK pid id ks p):=by
 unfold tkK
 split
 ·rename_i h0
  obtain⟨h1,h2,_,h4⟩:=Qis h0
  refine⟨fun q hq=>?_,fun q hq r hr=>?_,?_⟩
  ·rcases Qy8.1 hq with hq|hq
   ·exact h.good q hq
   ·obtain rfl:q=p:=by simpa using hq
    exact⟨h1,h2⟩
  ·rcases Qy8.1 hq with hq|hq<;>rcases Qy8.1 hr with hr|hr
   ·exact h.same q hq r hr
   ·have e:r=p:=by simpa using hr
    rw[e]
    exact (h4 q hq).1
   ·have e:q=p:=by simpa using hq
    rw[e]
    exact (h4 r hr).1.symm
   ·have e:q=p:=by simpa using hq
    have e':r=p:=by simpa using hr
    rw[e,e']
  ·rw[QyZ,List.nodup_append]
   refine⟨h.nd,by simp,fun a ha b hb=>?_⟩
   obtain rfl:b=p.ix:=by simpa using hb
   obtain⟨q,hq,rfl⟩:=Qy1.1 ha
   exact (h4 q hq).2
 ·exact h
theorem QmI {id:UInt64} (xs:List Prt):∀ {ks:List Prt},KeptOk ks→KeptOk (tksK pid id ks xs):=by
 induction xs with
 | nil=>exact fun h=>h
 | cons x xs ih=>exact fun h=>ih h.snoc
theorem QgD:∀(n:Nat) (l:List Int),l.Nodup→(∀ i∈l,0≤i∧i<n)→l.length≤n
 | 0,l,_,h=>by
   cases l with
   | nil=>exact Qyv _
   | cons i l=>have:=h i (by simp);omega
 | n+1,l,hn,h=>by
   have hb:(l.erase (n:Int)).length≤n:=by
    refine QgD n _ (hn.erase _) fun i hi=>?_
    have h1:=h i (List.mem_of_mem_erase hi)
    have h2:i≠(n:Int):=fun e=>by subst e;exact (List.Nodup.not_mem_erase hn) hi
    omega
   have:=List.length_erase_of_mem (a:=(n:Int)) (l:=l)
   by_cases hm:(n:Int)∈l
   ·rw[this hm]at hb
    omega
   ·rw[List.erase_of_not_mem hm]at hb
    omega
theorem KeptOk.le {ks:List Prt} (h:KeptOk ks) {c:Int} (hc:∀q∈ks,q.ct=c) (h0:0≤c):(ks.length:Int)≤c:=by
 have:=QgD c.toNat (ks.map (·.ix)) h.nd (fun i hi=>by
  obtain⟨q,hq,rfl⟩:=Qy1.1 hi
  have:=QgM (h.good q hq).2
  have:=hc q hq
  omega)
 rw[Qyo]at this
 omega
def daAt (ks:List Prt) (i:Nat):List UInt8:=((ks.find? (fun q=>q.ix==(i:Int))).map (·.da)).getD []
def Qir (ks:List Prt):List UInt8:=(Qy0 ks.length).flatMap fun (i:Nat)=>(ks.filter (fun q=>q.ix==(i:Int))).flatMap (·.da)
theorem Qhq {i:Int}:∀ {ks:List Prt},(ks.map (·.ix)).Nodup→(ks.filter (fun q=>q.ix==i)).flatMap (·.da)=((ks.find? (fun q=>q.ix==i)).map (·.da)).getD []
 | [],_=>rfl
 | q :: ks,h=>by
   rw[QyJ,QzL]at h
   by_cases hq:q.ix=i
   ·have hno:ks.filter (fun q=>q.ix==i)=[]:=by
     rw[List.filter_eq_nil_iff]
     intro r hr hc
     exact h.1 (Qy1.2 ⟨r,hr,(by simpa using hc:r.ix=i).trans hq.symm⟩)
    simp[hq,hno]
   ·have hb:(q.ix==i)=false:=by simpa using hq
    rw[List.filter_cons,List.find?_cons,hb]
    exact Qhq h.2
theorem Qra {ks:List Prt} (h:KeptOk ks):Qir ks=(Qy0 ks.length).flatMap (daAt ks):=by
 unfold Qir daAt
 congr 1
 funext i
 exact Qhq h.nd
structure Arr where
 pt:Prt
 kd:UInt8
 to:UInt64
 tk:Int
 ma:Y16
structure Ltr where
 to:UInt64
 id:UInt64
 tk:Int
 tx:List UInt8
def mine (x:UInt64×UInt64) (a:Arr):Bool:=a.kd==2&&a.pt.kd==1&&a.to==x.1&&a.pt.id==x.2
def Qb2 (qas:List Arr) (x:UInt64×UInt64):List Prt:=tksK pid x.2 [] ((qas.filter (mine x)).map (·.pt))
def Qhd (qas:List Arr) (a:Arr):List Ltr:=
 if a.kd=2∧a.pt.kd=1∧tkE pid a.pt.id (Qb2 qas (a.to,a.pt.id)) a.pt=0∧((Qb2 qas (a.to,a.pt.id)).length:Int)+1=a.pt.ct then [⟨a.to,a.pt.id,a.tk,Qir (Qb2 qas (a.to,a.pt.id)++[a.pt])⟩] else []
def ltrs (qas:List Arr) (k:Nat):List Ltr:=(Qy0 k).flatMap fun i=>match qas[i]? with|some a=>Qhd (qas.take i) a|none=>[]
theorem Qpk (qas:List Arr) (k:Nat) (a:Arr) (h:qas[k]?=some a):ltrs qas (k+1)=ltrs qas k++Qhd (qas.take k) a:=by
 unfold ltrs
 rw[QAf,QAg]
 simp[h]
theorem Qo9 (qas:List Arr) (x:UInt64×UInt64):KeptOk (Qb2 qas x):=QmI _ Qns
theorem QkM (qas:List Arr) (x:UInt64×UInt64) (a:Arr):Qb2 (qas++[a]) x=if mine x a then tkK pid x.2 (Qb2 qas x) a.pt else Qb2 qas x:=by
 unfold Qb2
 rw[List.filter_append,QyZ]
 by_cases h:mine x a=true
 ·rw[if_pos h]
  simp only[List.filter_cons,h,if_true,List.filter_nil,QyJ,QyD]
  exact Qp0 pid _ _ _ _
 ·rw[if_neg h]
  simp[h]
structure Arv where
 ar:Arr
 va:Value
def av0:Arv:=⟨⟨prt0,0,0,0,Qa3⟩,.slice none 0 0⟩
def AvC (x:Arv):List Value:=PaC x.ar.pt x.va++(W8 x.ar.kd :: W64 x.ar.to :: .int .i64 x.ar.tk :: x.ar.ma.val.map W8)
theorem Qak (x:Arv):(AvC x).length=24:=by simp[AvC,PaC,x.ar.ma.2]
def AvOk (w:World) (x:Arv):Prop:=∃A n c,x.va= .slice A n c∧n≤c∧RdB w A n x.ar.pt.da
theorem AvOk.later {w w':World} {x:Arv} (h:AvOk w x) (hl:Later w w'):AvOk w' x:=by
 obtain⟨A,n,c,h1,h2,h3⟩:=h
 exact⟨A,n,c,h1,h2,h3.later hl⟩
structure Vst where
 cm:Cmd
 id:UInt64
 tk:Int
def vst0:Vst:=⟨cmd0,0,0⟩
def VC (x:Vst):List Value:=CC x.cm++[W64 x.id,.int .i64 x.tk]
theorem Qax (x:Vst):(VC x).length=22:=by simp[VC,Qao]
end Go.Proofs.YtcbdgnlcknllnaaGreat
namespace Go.Proofs.YtcbdgnlcknllnaaGreat
open Go.RowKit
open Go.BigFrame
theorem QiB {w:World} {base sz n c:Nat} {e:TypeId} {A:Option Addr} {vs:List Value} (h:w.ownsRow base e sz (.slice A n c) n vs) (hn:0<n):
 ∃g rest,A=some ⟨g,0,none⟩∧base≤g∧Blk w g e (vs++rest)∧n≤c∧c≤maxLen∧(vs++rest).length=c*sz:=by
 rcases h.2 with ⟨hv,h0⟩|⟨g,cap,cur,hv,hb,hh,hnc,hm,hs,ht⟩
 ·omega
 ·cases hv
  have e:vs++cur.toList.drop (n*sz)=cur.toList:=by rw[←ht,Qy9]
  refine⟨g,cur.toList.drop (n*sz),rfl,hb,?_,hnc,hm,?_⟩
  ·rw[e]
   exact hh
  ·rw[e,Array.length_toList,hs]
theorem Qp7 {w:World} {base g sz n c:Nat} {e:TypeId} {vs rest:List Value} (h:Blk w g e (vs++rest)) (hb:base≤g) (hl:vs.length=n*sz) (hc:(vs++rest).length=c*sz) (hn:n≤c) (hm:c≤maxLen):w.ownsRow base e sz (.slice (some ⟨g,0,none⟩) n c) n vs:=
 ⟨hl,.inr ⟨g,c,(vs++rest).toArray,rfl,hb,h,hn,hm,by simp only[List.size_toArray];exact hc,by show (vs++rest).take _=vs;rw[←hl,List.take_left]⟩⟩
theorem QjO (l r vs:List Value) (o:Nat) (h:o+vs.length≤l.length):Qan (l++r) o vs=Qan l o vs++r:=by
 rw[Qan,Qan,Qza (by omega),Qzc (by omega),QyK,QyK,QyK]
section
variable {P:Program} {ops:Array Oper} {rest:List Oper} {o:Oper} {a:Act} {w:World} {Q:Exit→Act→World→Prop} {α:Type} {F:α→List Value} {sz:Nat}
theorem Qdk (hF:∀x,(F x).length=sz) (hF1:∀x,∀u∈F x,u.oneCell'=true) (d:α) (hgd:o.guard=none) (hd:o.dst=none) (ty:TypeId) (x y:Operand) (ho:o.op= .store ty x y) {base g n c:Nat} {e:TypeId} {xs:List α}
 (hown:w.ownsRow base e sz (.slice (some ⟨g,0,none⟩) n c) n (xs.flatMap F)) (hn:xs.length=n) (j:Nat) (hj:j<n) (v:α) (hx:a.eval x= .pointer (some ⟨g,j*sz,none⟩)) (hy:a.eval y= .agg (F v).toArray) (hi:(P.info? ty).map (·.size)=some sz)
 (h:∀w',w'.ownsRow base e sz (.slice (some ⟨g,0,none⟩) n c) n ((xs.set j v).flatMap F)→Only g w w'→wpList P ops Q rest a w'):wpList P ops Q (o :: rest) a w:=by
 obtain⟨g',r,hg,hb,hB,hnc,hm,hl⟩:=QiB hown (by omega)
 obtain rfl:g=g':=by simpa using hg
 have hfl:=QbL hF xs
 rw[hn]at hfl
 have hjn:j*sz+sz≤n*sz:=by
  rw[←Nat.succ_mul]
  exact Nat.mul_le_mul_right _ hj
 refine Qal hgd hd ty x y ho g (j*sz) e _ (F v) hB hx hy (by rw[hF];exact hi) (by rw[Qyz,hF];omega) (hF1 v) ?_
 intro w' hb' ho'
 have e1:Qan (xs.flatMap F) (j*sz) (F v)=(xs.set j v).flatMap F:=by
  have:=QjC hF d (off:=0) (vs:=F v) (y:=v) xs j (by omega) (by rw[hF];omega) (by rw[Qap _ _ (by rw[hF,hF])])
  rwa [Qz3]at this
 have e2:((xs.set j v).flatMap F).length=n*sz:=by rw[QbL hF,QyY,hn]
 rw[QjO _ _ _ _ (by rw[hF];omega),e1]at hb'
 exact h w' (Qp7 hb' hb e2 (by rw[Qyz]at hl ⊢;omega) hnc hm) ho'
end
theorem Qh8 {P:Program} {C:World→Prop} {a:Act} {o:Oper} {K:Act→Prop} {t:TypeId} (x i:Operand) (ho:o.op= .indexAddr t x i) (v:Value) (hv:∀w,(Instr.indexAt t (a.eval x) (a.eval i)).run P w= .ok v w)
 (h:K (a.put o.dst v)):o.quiet P a C K:=
 ⟨v,fun w hw=>by
   unfold Oper.quietAt execOp
   simp only[ho,Sem.run_bind,hv w,Result.andThen_ok]
   exact⟨rfl,rfl⟩,h⟩
theorem QgE {P:Program} {o:Oper} {a:Act} {J:Act→Prop} (ty:TypeId) (x:Operand) (ho:o.op= .load ty x) {w0:World} {bad:List Nat} {g:Nat} {t:TypeId} {l:List Value} (off:Nat) (vs:List Value) (hb:Blk w0 g t l) (hn:∀b∈bad,g≠b) (hx:a.eval x= .pointer (some ⟨g,off,none⟩))
 (hv:∀j v,vs[j]?=some v→l[off+j]?=some v) (d:TypeDesc) (hu:P.underlying ty=some d) (hd:Qa8 d=true) (hi:(P.info? ty).map (·.size)=some vs.length) (h:J (a.put o.dst (.agg vs.toArray))):o.quiet P a (Spared w0 bad) J:=
 QaQ _ x ho g off vs (fun _ hw j v hv'=>Blk.cellD (hw.blk hb hn) _ (hv j v hv')) hx d hu hd hi h
theorem QcO {P:Program} {C:World→Prop} {a:Act} {o:Oper} {K:Act→Prop} (x:Operand) (v:Value) (ho:o.op= .move x) (hv:a.eval x=v) (h:K (a.put o.dst v)):o.quiet P a C K:=
 quiet_move x ho (hv ▸ h)
end Go.Proofs.YtcbdgnlcknllnaaGreat
namespace Go.Proofs.YtcbdgnlcknllnaaGreat
open Go.ChangeShapes Go.WideShapes Go.ChangeAt Go.RowKit
end Go.Proofs.YtcbdgnlcknllnaaGreat
namespace Go.Proofs.YtcbdgnlcknllnaaGreat
open Go.ChangeShapes Go.WideShapes Go.ChangeAt Go.RowKit
open _root_.Go.Proofs.YtcbdgnlcknllnaaGreat.Rows (uptoBulk uptoBulkAll uptoSmall)
theorem Qrf {H:Type} (d:DataW H):1≤uptoBulk d:=by
 cases d with
 | lit l=>cases l<;>simp[uptoBulk]
 | _=>simp[uptoBulk]
theorem QiH {H:Type} {d:DataW H} {l:List (DataW H)} (h:d∈l):uptoBulk d≤uptoBulkAll l:=by
 induction l with
 | nil=>cases h
 | cons x r ih=>
   simp only[uptoBulkAll]
   cases QyI.1 h with
   | inl e=>subst e;omega
   | inr e=>have:=ih e;omega
theorem Qlf {H:Type} (l:List (DataW H)):l.length≤uptoBulkAll l:=by
 induction l with
 | nil=>simp[uptoBulkAll]
 | cons x r ih=>have:=Qrf x;simp only[uptoBulkAll,Qzd];omega
theorem Qme {H:Type} {l:List (DataW H)} (hk:uptoSmall H l=true):uptoBulkAll l≤1048576:=of_decide_eq_true hk
section
variable {H:Type} {enc:TypeId×Value→H} {P:Program} {w:World} {base:Nat} {sp:Nat→Bool} {held:Bool}
theorem QqW {a:Addr} {c:List Value} (h:w.cells? base a 1=some c):∃u,c=[u]∧w.cell? a=some u:=by
 have e0:a.add 0=a:=by simp[Addr.add]
 unfold World.cells? at h
 split at h
 ·simp only[QAf,List.range_zero,Qyr,List.mapM_cons,List.mapM_nil,e0]at h
  cases hcc:w.cell? a with
  | none=>simp[hcc]at h
  | some u=>simp[hcc]at h;exact⟨u,h.symm,rfl⟩
 ·cases h
theorem QjM {a:Addr} {u:Value} (h:w.cell? a=some u):a.spot=none∧a.block<w.heap.size:=by
 unfold World.cell? at h
 split at h
 ·rename_i c t fz hc
  refine⟨?_,(Array.getElem?_eq_some_iff.1 hc).1⟩
  cases hs:a.spot with
  | none=>rfl
  | some x=>simp[hs]at h
 ·cases h
theorem QqH {t e:TypeId} {fuel:Nat} {v:Value} {x:DataW H×List MemPlace} (ht:P.underlying t=some (.slice e)) (hc:P.cellsOf e=1) (h:DataW.trod enc P w base sp held fuel t [v]=some x):
 ∃A n c,∃(vs:List Value) (xs:List (DataW H×List MemPlace)),v= .slice A n c∧n≤c∧c≤maxLen∧Rd w A n vs∧xs.length=n∧
  (∀ (j:Nat) u,vs[j]?=some u→∃y f,xs[j]?=some y∧DataW.trod enc P w base sp held f e [u]=some y)∧uptoBulkAll (xs.map (·.1))+1≤uptoBulk x.1:=by
 rcases DataW.trod_slice ht h with ⟨hcs,rfl⟩|⟨a,len,cap,elems,rest,n,rfl,hcs,rfl,hb,hl,hm,hlen,hel,hsp,hns⟩
 ·obtain rfl:v= .slice none 0 0:=by simpa using hcs
  exact⟨none,0,0,[],[],rfl,Qyv _,QAa _,⟨rfl,fun h=>absurd h (by omega)⟩,rfl,fun j u hu=>by simp at hu,by simp[uptoBulk,uptoBulkAll]⟩
 ·obtain rfl:v= .slice (some a) len cap:=by simpa using hcs
  have each:∀i,i<len→∃u y,w.cell? (a.add i)=some u∧elems[i]?=some y∧DataW.trod enc P w base sp held n e [u]=some y:=by
   intro i hi
   have hE:=hel i hi
   rw[hc,Qzb]at hE
   have hy:elems[i]?=some (elems[i]'(by omega)):=Qyq _
   rw[hy,Option.bind_eq_some_iff]at hE
   obtain⟨c1,hc1,hy1⟩:=hE
   obtain⟨u,rfl,hu⟩:=QqW hc1
   exact⟨u,_,hu,hy,hy1⟩
  refine⟨some a,len,cap,(Qy0 len).map fun i=>(w.cell? (a.add i)).getD undef,elems,rfl,hl,hm,⟨by simp,fun h0=>?_⟩,hlen,fun j u hu=>?_,?_⟩
  ·obtain⟨u,y,hu,_,_⟩:=each 0 h0
   have e0:a.add 0=a:=by simp[Addr.add]
   rw[e0]at hu
   obtain⟨h1,h2⟩:=QjM hu
   obtain⟨b,o,s⟩:=a
   simp only at h1
   subst h1
   refine⟨b,o,rfl,h2,fun j v hv=>?_⟩
   rw[QyF]at hv
   have hj:j<len:=by
    rcases Qzn j len with h|h
    ·exact h
    ·rw[Qzo (by simpa using h)]at hv
     cases hv
   obtain⟨u',y',hu',_,_⟩:=each j hj
   rw[QzX hj]at hv
   simp only[Qzz,Option.some.injEq,hu',QAh]at hv
   rw[←QbM,hu',hv]
  ·rw[QyF]at hu
   have hj:j<len:=by
    rcases Qzn j len with h|h
    ·exact h
    ·rw[Qzo (by simpa using h)]at hu
     cases hu
   obtain⟨u',y',hu',hy',ht'⟩:=each j hj
   rw[QzX hj]at hu
   simp only[Qzz,Option.some.injEq,hu',QAh]at hu
   exact⟨y',n,hy',hu ▸ ht'⟩
  ·simp only[uptoBulk]
   omega
theorem Qm8 {t e:TypeId} {fuel:Nat} {v:Value} {x:DataW H×List MemPlace} (ht:P.underlying t=some (.slice e)) (he:P.underlying e=some (.int .u8)) (hc:P.cellsOf e=1) (h:DataW.trod enc P w base sp held fuel t [v]=some x):
 ∃A n c bs,v= .slice A n c∧n≤c∧c≤maxLen∧RdB w A n bs∧bs.length+1≤uptoBulk x.1:=by
 obtain⟨A,n,c,vs,xs,rfl,h1,h2,h3,h4,h5,h6⟩:=QqH ht hc h
 have hb:∀(j:Nat) u,vs[j]?=some u→∃b:UInt8,u=W8 b:=by
  intro j u hu
  obtain⟨y,f,_,hy⟩:=h5 j u hu
  obtain⟨m,hm,rfl,hw⟩:=DataW.trod_int he hy
  obtain rfl:u= .int .u8 m:=by simpa using hm
  have hr:0≤m∧m≤255:=by simpa [Lit.wf,IntKind.min,IntKind.max,IntKind.signed,IntKind.bits] using hw
  exact⟨Qy2 m.toNat,by rw[W8,QAj];congr 1;omega⟩
 have hl:∀l:List Value,(∀ (j:Nat) u,l[j]?=some u→∃b:UInt8,u=W8 b)→∃bs:List UInt8,l=bs.map W8:=by
  intro l
  induction l with
  | nil=>exact fun _=>⟨[],rfl⟩
  | cons u l ih=>
    intro hl
    obtain⟨b,rfl⟩:=hl 0 u rfl
    obtain⟨bs,rfl⟩:=ih fun j v hv=>hl (j+1) v (by simpa using hv)
    exact⟨b :: bs,rfl⟩
 obtain⟨bs,rfl⟩:=hl vs hb
 refine⟨A,n,c,bs,rfl,h1,h2,h3,?_⟩
 have e1:bs.length=n:=by have:=h3.1;simpa using this
 have e2:=Qlf (xs.map (·.1))
 rw[Qyo,h4]at e2
 omega
end
theorem Qvy:Tryz.prog.cellsOf 5=1:=by kernel_rfl
section
variable {H:Type} {enc:TypeId×Value→H} {w:World} {base b0:Nat} {sp:Nat→Bool} {held:Bool} {r:Reach}
end
theorem QhI {l:List Value} {i:Nat} {v:Value} (h:(l.drop i).take 1=[v]):l[i]?=some v:=by
 have:=congrArg (·[0]?) h
 simpa [QzO,QzP] using this
section
variable {H:Type} {enc:TypeId×Value→H} {P:Program} {w:World} {base b0:Nat} {sp:Nat→Bool} {held:Bool} {r:Reach}
end
section
variable {H:Type} {enc:TypeId×Value→H} {w:World} {base b0:Nat} {sp:Nat→Bool} {held:Bool} {r:Reach}
theorem QqP {fuel i:Nat} {cs:List Value} {x:DataW H×List MemPlace} (h:DataW.trod enc Tryz.prog w base sp held fuel 3 ((cs.drop i).take (Tryz.prog.cellsOf 3))=some x):∃z:Int,cs[i]?=some (.int .i64 z):=by
 rw[show Tryz.prog.cellsOf 3=1 by kernel_rfl]at h
 obtain⟨z,hz,_,_⟩:=DataW.trod_int Tryz.underlying3 h
 exact⟨z,QhI hz⟩
theorem Qrs {fuel i:Nat} {cs:List Value} {x:DataW H×List MemPlace} (h:DataW.trod enc Tryz.prog w base sp held fuel 24 ((cs.drop i).take (Tryz.prog.cellsOf 24))=some x):∃z:UInt64,cs[i]?=some (W64 z):=by
 rw[show Tryz.prog.cellsOf 24=1 by kernel_rfl]at h
 obtain⟨z,hz,_,hw⟩:=DataW.trod_int Tryz.underlying24 h
 have hr:0≤z∧z≤18446744073709551615:=by simpa [Lit.wf,IntKind.min,IntKind.max,IntKind.signed,IntKind.bits] using hw
 exact⟨_,by rw[QhI hz,QaP z hr.1 (by omega)]⟩
end
end Go.Proofs.YtcbdgnlcknllnaaGreat
namespace Go.Proofs.YtcbdgnlcknllnaaGreat
open Go.RowKit
open Go.ChangeShapes Go.WideShapes Go.ChangeAt
open _root_.Go.Proofs.YtcbdgnlcknllnaaGreat.Rows (uptoBulk uptoBulkAll uptoSmall)
open Go.ChangeMaps (open_string shut_string)
structure Emt where
 tk:Int
 id:UInt64
 bs:List UInt8
 A:Option Addr
 n:Nat
 c:Nat
def emt0:Emt:=⟨0,0,[],none,0,0⟩
def EmC (e:Emt):List Value:=[.int .i64 e.tk,W64 e.id,.slice e.A e.n e.c]
theorem QmG (e:Emt):(EmC e).length=3:=rfl
theorem Qoo (e:Emt):∀u∈EmC e,u.oneCell'=true:=by
 intro u hu
 simp only[EmC,QyI,QyN,or_false]at hu
 rcases hu with rfl|rfl|rfl<;>rfl
def EmOk (w:World) (e:Emt):Prop:=e.n≤e.c∧RdB w e.A e.n e.bs
theorem EmOk.later {w w':World} {e:Emt} (h:EmOk w e) (l:Later w w'):EmOk w' e:=⟨h.1,h.2.later l⟩
section
variable {H:Type} {enc:TypeId×Value→H} {w:World} {base b0:Nat} {sp:Nat→Bool} {held:Bool} {r:Reach}
set_option maxRecDepth 100000 in
theorem QpD {fuel:Nat} {cs:List Value} {x:DataW H×List MemPlace} (h:DataW.trod enc Tryz.prog w base sp held fuel 27 cs=some x):∃y:Emt,cs=EmC y∧EmOk w y∧y.n+1≤uptoBulk x.1:=by
 obtain⟨xs,m,rfl,rfl,hl,hxl,he⟩:=DataW.trod_struct Tryz.underlying27 h
 have hn:Tryz.prog.cellsOf 27=3:=by kernel_rfl
 have hB:Tryz.prog.cellsOf 25=1:=by kernel_rfl
 rw[hn]at hl
 have hxl3:xs.length=3:=hxl
 have g:∀i,i<3→xs[i]?=some (xs.getD i (.nil,[])):=fun i hi=>by rw[Qyt,Qyq (by omega)];rfl
 have e2:DataW.trod enc Tryz.prog w base sp held m 25 ((cs.drop 2).take (Tryz.prog.cellsOf 25))=some (xs.getD 2 (.nil,[])):=(he 2 _ rfl).trans (g 2 (by omega))
 obtain⟨tk,htk⟩:=QqP (i:=0) ((he 0 _ rfl).trans (g 0 (by omega)))
 obtain⟨id,hid⟩:=Qrs (i:=1) ((he 1 _ rfl).trans (g 1 (by omega)))
 rw[hB]at e2
 match cs,hl with
 | [a,b,c],_=>
   have htk':a= .int .i64 tk:=by simpa using htk
   have hid':b=W64 id:=by simpa using hid
   simp only[List.drop_zero,QzB,List.take_succ_cons,QzK]at e2
   obtain⟨B,k,cp2,bs,hb',h5,h6,h7,h8⟩:=Qm8 Tryz.underlying25 Tryz.underlying5 Qvy e2
   have hbl:=h7.len
   have b1:=QiH (d:=(xs.getD 2 (.nil,[])).1) (l:=xs.map (·.1)) (Qy1.2 ⟨_,QzS (g 2 (by omega)),rfl⟩)
   refine⟨⟨tk,id,bs,B,k,cp2⟩,by rw[htk',hid',hb'];rfl,⟨h5,h7⟩,?_⟩
   simp only[uptoBulk]
   show k+1≤_
   omega
set_option maxRecDepth 100000 in
theorem Qok {v:Value} {d:DataW H} {pl:List MemPlace} (hval:Value.okWide Tryz.prog w r b0 27 v) (h:DataW.Trod enc Tryz.prog w base sp held 27 v d pl):
 ∃y:Emt,v= .agg (EmC y).toArray∧EmOk w y∧y.n+1≤uptoBulk d:=by
 simp only[Value.okWide,Tryz.underlying27]at hval
 obtain⟨cs,rfl,h2,_⟩:=hval
 obtain⟨fuel,hf⟩:=h
 have hf':DataW.trod enc Tryz.prog w base sp held fuel 27 cs.toList=some (d,pl):=hf
 obtain⟨y,h1,h3,h4⟩:=QpD hf'
 exact⟨y,by rw[←h1],h3,h4⟩
end
end Go.Proofs.YtcbdgnlcknllnaaGreat
namespace Go.Proofs.YtcbdgnlcknllnaaGreat
open Go.RowKit
open Go.BigFrame
section
variable {P:Program} {ops:Array Oper} {rest:List Oper} {o:Oper} {a:Act} {w:World} {Q:Exit→Act→World→Prop} {α:Type} {F:α→List Value} {sz:Nat} {d:α}
theorem Qf6 (hF:∀x,(F x).length=sz) (h0:0<sz) (hgd:o.guard=none) (s x:Operand) (t:TypeId) (ho:o.op= .call { callee:=.builtin .append,args:= #[s,x],argTypes:= #[t,t] })
 (e:TypeId) (z:Value) (bytes:Nat) (ht:P.underlying t=some (.slice e)) (hinfo:(P.info? e).map (fun i=>(i.zero,i.size,i.bytes))=some (some z,sz,bytes)) (hzs:z.cells.size=sz) (g:Nat)
 (A:Option Addr) (m c:Nat) (xs:List α) (hr:RdF F sz d w A m xs) (hs:a.eval s= .slice (some ⟨g,0,none⟩) 0 0) (hx:a.eval x= .slice A m c) (hsz:m*bytes≤140737488355328) (hby:0<bytes)
 (h:∀A' c' w',RdF F sz d w' A' m xs→Later w w'→wpList P ops Q rest (a.put o.dst (.slice A' m c')) w'):wpList P ops Q (o :: rest) a w:=by
 obtain⟨i,hi,hz,hsize,hbytes⟩:=info_parts hinfo
 have hm:m≤140737488355328:=QyX (Qzg _ hby) hsz
 refine wpList_plain hgd fun K hK=>?_
 rcases Qz5 m with hm0|hm0
 ·subst hm0
  have hrun:(Builtin.append_ #[t,t] o.type #[.slice (some ⟨g,0,none⟩) 0 0,.slice A 0 c]).run P w= .ok (.slice (some ⟨g,0,none⟩) 0 0) w:=by
   cases A<;>simp[Builtin.append_,run_underlying ht,sizeOf,typeInfo,hi,Builtin.lenOf,Builtin.firstCells,loadCells,loadCellsFrom,storeCells]
  unfold Oper.wp execOp
  simp only[ho,resolve,invoke,builtin,Sem.run_bind,Sem.run_pure,Result.andThen_ok,Qyw,QyJ,QyD,hs,hx,hrun]
  exact hK _ _ (h _ _ _ ⟨hr.1,fun h=>absurd h (by omega)⟩ (Later.refl w))
 ·obtain⟨b,o2,rfl,_,_⟩:=hr.2 hm0
  have hlen:(xs.flatMap F).length=m*sz:=by rw[QbL hF,hr.1]
  have hrun:=run_append_grow (P:=P) w t o.type e i z ht hi hz ⟨g,0,none⟩ 0 0 [] (by simp) (by simp) ⟨b,o2,none⟩ m c (xs.flatMap F) (by rw[hsize,hlen]) (hr.cells hF h0) (by omega) (by omega) (growslice_fits (by omega) (by rw[hbytes,QyE];exact hsz))
  have hge:=grownCap_ge w (0+m) 0 e
  have hcm:grownCap w (0+m) 0 e≤maxLen:=grownCap_le_maxLen w (0+m) 0 e (by unfold maxLen;omega)
  unfold Oper.wp execOp
  simp only[ho,resolve,invoke,builtin,Sem.run_bind,Sem.run_pure,Result.andThen_ok,Qyw,QyJ,QyD,hs,hx,hrun]
  generalize grownCap w (0+m) 0 e=cp at *
  rw[QyE]at *
  have hown:(w.drew.alloc (.cells (#[]++(xs.flatMap F).toArray++Builtin.zeroCells z.cells (cp-m)) e)).ownsRow w.heap.size e sz (.slice (some ⟨w.heap.size,0,none⟩) m cp) m (xs.flatMap F):=by
   refine⟨hlen,.inr ⟨w.heap.size,_,_,rfl,Qyv _,heap_alloc_new w.drew _,hge,hcm,?_,?_⟩⟩
   ·simp only[Array.size_append,List.size_toArray,size_zeroCells,hzs,hlen]
    rw[Nat.sub_mul,List.length_nil]
    have:=Nat.mul_le_mul_right sz hge
    omega
   ·simp only[Array.toList_append,←hlen]
    rw[Qyr,List.take_left]
  exact hK _ _ (h _ _ _ (Qev hF hown hr.1) ((Qab w).trans (Qaa w.drew _)))
end
end Go.Proofs.YtcbdgnlcknllnaaGreat
namespace Go.Proofs.YtcbdgnlcknllnaaGreat
open Go.ChangeShapes Go.WideShapes Go.ChangeAt Go.RowKit
open _root_.Go.Proofs.YtcbdgnlcknllnaaGreat.Rows (uptoBulk uptoBulkAll uptoSmall)
section
variable {H:Type} {enc:TypeId×Value→H} {P:Program} {w:World} {base b0:Nat} {sp:Nat→Bool} {held:Bool} {r:Reach}
end
end Go.Proofs.YtcbdgnlcknllnaaGreat
