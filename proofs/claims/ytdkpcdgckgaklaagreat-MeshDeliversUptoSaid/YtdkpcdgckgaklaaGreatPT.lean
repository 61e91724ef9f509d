/-
  Lemmas for the last text of this claim (part 20 of 20).
-/
import Derived.ArgAppend
import Derived.BigQuiet
import Derived.BigRegion
import Derived.ChangeOld
import Derived.Deep.RegionWith
import Derived.DeepKeys4
import Derived.JoinedCond
import Derived.LaidMore
import Derived.Laws.CopyOwn
import Derived.Laws.Externs
import Derived.Laws.IdiomStrings
import Derived.Laws.Tables
import Derived.Lib.AppendStr
import Derived.Lib.AppendZerosOnto
import Derived.Lib.Mul64
import Derived.Lib.SlBytesConst
import Derived.LoopN
import Derived.Maps.OwnSet
import Derived.OpenShut
import Derived.OrdersHeld
import Derived.ProofKit
import Derived.Shelf.Spec.BitsCarry
import Derived.ShutString
import Derived.Test.YtdkpcdgckgaklaaGreatProg
import Derived.Test.YtdkpcdgckgaklaaGreatRows
import Derived.WalkKit
import Derived.WalkLawsBesides
import Derived.WalkSpells
import Derived.Test.YtdkpcdgckgaklaaGreatPB
import Derived.Test.YtdkpcdgckgaklaaGreatPH
import Derived.Test.YtdkpcdgckgaklaaGreatPI
import Derived.Test.YtdkpcdgckgaklaaGreatPJ
import Derived.Test.YtdkpcdgckgaklaaGreatPK
import Derived.Test.YtdkpcdgckgaklaaGreatPO
import Derived.Test.YtdkpcdgckgaklaaGreatPQ
import Derived.Test.YtdkpcdgckgaklaaGreatPR
import Derived.Test.YtdkpcdgckgaklaaGreatPS
open List renaming getElem?_cons_succ → QCo, getElem?_cons_zero → QCp, cons_append → QCr, nil_append → QCs, length_map → QCt, getD_eq_getElem?_getD → QCu, getElem?_eq_getElem → QCv, setIfInBounds_toArray → QCw, set_cons_zero → QCy, set_cons_succ → QCz, map_toArray → QCA, length_append → QCB, map_nil → QCC, getElem?_append_left → QCD, take_of_length_le → QCE, getElem?_append_right → QCF, getElem?_map → QCH, getElem?_eq_some_iff → QCK, length_take → QCP, mem_cons → QCQ, map_cons → QCR, length_drop → QCS, not_mem_nil → QCT, take_succ_eq_append_getElem → QCY, eq_nil_of_length_eq_zero → QC0, append_nil → QC1, take_append_drop → QC3, range → QC5, map_append → QC6, mem_map → QC7, mem_append → QDc, flatMap_cons → QDi, length_cons → QDj, getElem_mem → QDn, getElem?_eq_none → QDr, getElem?_take → QDt, map_take → QDB, mem_range → QDC, mem_singleton → QDH, getElem?_drop → QDU, flatMap_append → QDZ, drop_succ_cons → QD0, getElem?_range → QEc, take_zero → QEm, range_succ → QEp, flatMap_nil → QEu, map_set → QEy, map_drop → QEF
open Nat renaming le_refl → QCx, zero_add → QCI, le_trans → QC4, lt_or_ge → QDq, le_mul_of_pos_right → QD3, eq_zero_or_pos → QD6, mul_one → QEi, zero_le → QEk, add_mul → QEA, sub_self → QEB
open Option renaming toList_some → QCq, map_some → QD7, getD_some → QEr
open UInt64 renaming ofNat → QCN
open UInt8 renaming ofNat → QC2, toNat_ofNat' → QDM
set_option linter.all false
namespace Go.Proofs.YtdkpcdgckgaklaaGreat
open Go.ChangeShapes Go.WideShapes Go.ChangeAt Go.RowKit
end Go.Proofs.YtdkpcdgckgaklaaGreat
namespace Go.Proofs.YtdkpcdgckgaklaaGreat
open Go.ChangeShapes Go.WideShapes Go.ChangeAt Go.RowKit
open _root_.Go.Proofs.YtdkpcdgckgaklaaGreat.Rows (uptoBulk uptoBulkAll uptoSmall)
theorem Qu2 {H:Type} (d:DataW H):1≤uptoBulk d:=by
 cases d with
 | lit l=>cases l<;>simp[uptoBulk]
 | _=>simp[uptoBulk]
theorem QhJ {H:Type} {d:DataW H} {l:List (DataW H)} (h:d∈l):uptoBulk d≤uptoBulkAll l:=by
 induction l with
 | nil=>cases h
 | cons x r ih=>
   simp only[uptoBulkAll]
   cases QCQ.1 h with
   | inl e=>subst e;omega
   | inr e=>have:=ih e;omega
theorem Qkh {H:Type} (l:List (DataW H)):l.length≤uptoBulkAll l:=by
 induction l with
 | nil=>simp[uptoBulkAll]
 | cons x r ih=>have:=Qu2 x;simp only[uptoBulkAll,QDj];omega
theorem Qpr {H:Type} {l:List (DataW H)} (hk:uptoSmall H l=true):uptoBulkAll l≤1048576:=of_decide_eq_true hk
section
variable {H:Type} {enc:TypeId×Value→H} {P:Program} {w:World} {base:Nat} {sp:Nat→Bool} {held:Bool}
theorem QuM {a:Addr} {c:List Value} (h:w.cells? base a 1=some c):∃u,c=[u]∧w.cell? a=some u:=by
 have e0:a.add 0=a:=by simp[Addr.add]
 unfold World.cells? at h
 split at h
 ·simp only[QEp,List.range_zero,QCs,List.mapM_cons,List.mapM_nil,e0]at h
  cases hcc:w.cell? a with
  | none=>simp[hcc]at h
  | some u=>simp[hcc]at h;exact⟨u,h.symm,rfl⟩
 ·cases h
theorem QhX {a:Addr} {u:Value} (h:w.cell? a=some u):a.spot=none∧a.block<w.heap.size:=by
 unfold World.cell? at h
 split at h
 ·rename_i c t fz hc
  refine⟨?_,(Array.getElem?_eq_some_iff.1 hc).1⟩
  cases hs:a.spot with
  | none=>rfl
  | some x=>simp[hs]at h
 ·cases h
theorem QuE {t e:TypeId} {fuel:Nat} {v:Value} {x:DataW H×List MemPlace} (ht:P.underlying t=some (.slice e)) (hc:P.cellsOf e=1) (h:DataW.trod enc P w base sp held fuel t [v]=some x):
 ∃A n c,∃(vs:List Value) (xs:List (DataW H×List MemPlace)),v= .slice A n c∧n≤c∧c≤maxLen∧Rd w A n vs∧xs.length=n∧
  (∀ (j:Nat) u,vs[j]?=some u→∃y f,xs[j]?=some y∧DataW.trod enc P w base sp held f e [u]=some y)∧uptoBulkAll (xs.map (·.1))+1≤uptoBulk x.1:=by
 rcases DataW.trod_slice ht h with ⟨hcs,rfl⟩|⟨a,len,cap,elems,rest,n,rfl,hcs,rfl,hb,hl,hm,hlen,hel,hsp,hns⟩
 ·obtain rfl:v= .slice none 0 0:=by simpa using hcs
  exact⟨none,0,0,[],[],rfl,QCx _,QEk _,⟨rfl,fun h=>absurd h (by omega)⟩,rfl,fun j u hu=>by simp at hu,by simp[uptoBulk,uptoBulkAll]⟩
 ·obtain rfl:v= .slice (some a) len cap:=by simpa using hcs
  have each:∀i,i<len→∃u y,w.cell? (a.add i)=some u∧elems[i]?=some y∧DataW.trod enc P w base sp held n e [u]=some y:=by
   intro i hi
   have hE:=hel i hi
   rw[hc,QEi]at hE
   have hy:elems[i]?=some (elems[i]'(by omega)):=QCv _
   rw[hy,Option.bind_eq_some_iff]at hE
   obtain⟨c1,hc1,hy1⟩:=hE
   obtain⟨u,rfl,hu⟩:=QuM hc1
   exact⟨u,_,hu,hy,hy1⟩
  refine⟨some a,len,cap,(QC5 len).map fun i=>(w.cell? (a.add i)).getD undef,elems,rfl,hl,hm,⟨by simp,fun h0=>?_⟩,hlen,fun j u hu=>?_,?_⟩
  ·obtain⟨u,y,hu,_,_⟩:=each 0 h0
   have e0:a.add 0=a:=by simp[Addr.add]
   rw[e0]at hu
   obtain⟨h1,h2⟩:=QhX hu
   obtain⟨b,o,s⟩:=a
   simp only at h1
   subst h1
   refine⟨b,o,rfl,h2,fun j v hv=>?_⟩
   rw[QCH]at hv
   have hj:j<len:=by
    rcases QDq j len with h|h
    ·exact h
    ·rw[QDr (by simpa using h)]at hv
     cases hv
   obtain⟨u',y',hu',_,_⟩:=each j hj
   rw[QEc hj]at hv
   simp only[QD7,Option.some.injEq,hu',QEr]at hv
   rw[←Qdl,hu',hv]
  ·rw[QCH]at hu
   have hj:j<len:=by
    rcases QDq j len with h|h
    ·exact h
    ·rw[QDr (by simpa using h)]at hu
     cases hu
   obtain⟨u',y',hu',hy',ht'⟩:=each j hj
   rw[QEc hj]at hu
   simp only[QD7,Option.some.injEq,hu',QEr]at hu
   exact⟨y',n,hy',hu ▸ ht'⟩
  ·simp only[uptoBulk]
   omega
theorem Qqo {t e:TypeId} {fuel:Nat} {v:Value} {x:DataW H×List MemPlace} (ht:P.underlying t=some (.slice e)) (he:P.underlying e=some (.int .u8)) (hc:P.cellsOf e=1) (h:DataW.trod enc P w base sp held fuel t [v]=some x):
 ∃A n c bs,v= .slice A n c∧n≤c∧c≤maxLen∧RdB w A n bs∧bs.length+1≤uptoBulk x.1:=by
 obtain⟨A,n,c,vs,xs,rfl,h1,h2,h3,h4,h5,h6⟩:=QuE ht hc h
 have hb:∀(j:Nat) u,vs[j]?=some u→∃b:UInt8,u=W8 b:=by
  intro j u hu
  obtain⟨y,f,_,hy⟩:=h5 j u hu
  obtain⟨m,hm,rfl,hw⟩:=DataW.trod_int he hy
  obtain rfl:u= .int .u8 m:=by simpa using hm
  have hr:0≤m∧m≤255:=by simpa [Lit.wf,IntKind.min,IntKind.max,IntKind.signed,IntKind.bits] using hw
  exact⟨QC2 m.toNat,by rw[W8,QDM];congr 1;omega⟩
 have hl:∀l:List Value,(∀ (j:Nat) u,l[j]?=some u→∃b:UInt8,u=W8 b)→∃bs:List UInt8,l=bs.map W8:=by
  intro l
  induction l with
  | nil=>exact fun _=>⟨[],rfl⟩
  | cons u l ih=>
    intro hl
    obtain⟨b,rfl⟩:=hl 0 u rfl
    obtain⟨bs,rfl⟩:=ih fun j v hv=>hl (j+1) v (by simpa using hv)
    exact⟨b :: bs,rfl⟩
 obtain⟨bs,rfl⟩:=hl vs hb
 refine⟨A,n,c,bs,rfl,h1,h2,h3,?_⟩
 have e1:bs.length=n:=by have:=h3.1;simpa using this
 have e2:=Qkh (xs.map (·.1))
 rw[QCt,h4]at e2
 omega
end
theorem Qy1:Tryz.prog.cellsOf 5=1:=by kernel_rfl
section
variable {H:Type} {enc:TypeId×Value→H} {w:World} {base b0:Nat} {sp:Nat→Bool} {held:Bool} {r:Reach}
end
theorem QoE {α β:Type} (f:α→Option β):∀(l:List α) (ys:List β),l.mapM f=some ys→ys.length=l.length∧∀(i:Nat) x,l[i]?=some x→f x=ys[i]?
 | [],ys,h=>by
   simp only[List.mapM_nil,pure,Option.some.injEq]at h
   subst h
   exact⟨rfl,fun i x hx=>by simp at hx⟩
 | a :: l,ys,h=>by
   rw[List.mapM_cons]at h
   simp only[bind,Option.bind_eq_some_iff,pure,Option.some.injEq]at h
   obtain⟨y,hy,ys',h',rfl⟩:=h
   obtain⟨h1,h2⟩:=QoE f l ys' h'
   refine⟨by simp[h1],fun i x hx=>?_⟩
   cases i with
   | zero=>
     obtain rfl:a=x:=by simpa using hx
     simpa using hy
   | succ i=>simpa using h2 i x (by simpa using hx)
theorem Qjh {w:World} {base k:Nat} {a:Addr} {cs:List Value} (h:w.cells? base a k=some cs):cs.length=k∧∀i,i<k→w.cell? (a.add i)=cs[i]?:=by
 unfold World.cells? at h
 split at h
 ·obtain⟨h1,h2⟩:=QoE _ _ _ h
  exact⟨by simpa using h1,fun i hi=>h2 i i (by rw[QEc hi])⟩
 ·cases h
theorem QjE {l:List Value} {i:Nat} {v:Value} (h:(l.drop i).take 1=[v]):l[i]?=some v:=by
 have:=congrArg (·[0]?) h
 simpa [QDt,QDU] using this
section
variable {H:Type} {enc:TypeId×Value→H} {P:Program} {w:World} {base b0:Nat} {sp:Nat→Bool} {held:Bool} {r:Reach}
theorem Qsn {α:Type} {F:α→List Value} {sz:Nat} (d0:α) {G:α→Nat→Prop} {t e:TypeId} (ht:P.underlying t=some (.slice e)) (hc:P.cellsOf e=sz) (h0:0<sz) (hF:∀x,(F x).length=sz) (hG:∀y m n,m≤n→G y m→G y n)
 (el:∀fuel cs x,DataW.trod enc P w base sp held fuel e cs=some x→∃y,cs=F y∧G y (uptoBulk x.1)) {fuel:Nat} {v:Value} {x:DataW H×List MemPlace} (h:DataW.trod enc P w base sp held fuel t [v]=some x):
 ∃A n c xs,v= .slice A n c∧n≤c∧RdF F sz d0 w A n xs∧n+1≤uptoBulk x.1∧∀y∈xs,G y (uptoBulk x.1):=by
 rcases DataW.trod_slice ht h with ⟨hcs,rfl⟩|⟨a,len,cap,elems,rest,n,rfl,hcs,rfl,hb,hl,hm,hlen,hel,hsp,hns⟩
 ·obtain rfl:v= .slice none 0 0:=by simpa using hcs
  exact⟨none,0,0,[],rfl,QCx _,QdD w,by simp[uptoBulk],by simp⟩
 ·obtain rfl:v= .slice (some a) len cap:=by simpa using hcs
  have each:∀i,∃y:α,i<len→(w.cells? base (a.add (i*sz)) sz=some (F y)∧G y (uptoBulkAll (elems.map (·.1)))):=by
   intro i
   by_cases hi:i<len
   ·have hE:=hel i hi
    rw[hc]at hE
    have hy:elems[i]?=some (elems[i]'(by omega)):=QCv _
    rw[hy,Option.bind_eq_some_iff]at hE
    obtain⟨c1,hc1,hy1⟩:=hE
    obtain⟨y,rfl,hg⟩:=el _ _ _ hy1
    exact⟨y,fun _=>⟨hc1,hG _ _ _ (QhJ (QC7.2 ⟨_,QDn _,rfl⟩)) hg⟩⟩
   ·exact⟨d0,fun h=>absurd h hi⟩
  obtain⟨f,hf⟩:=Classical.axiomOfChoice each
  have hfl:∀j,j<len→((QC5 len).map f).getD j d0=f j:=by
   intro j hj
   rw[QCu,QCH,QEc hj]
   rfl
  have e2:=Qkh (elems.map (·.1))
  rw[QCt,hlen]at e2
  refine⟨some a,len,cap,(QC5 len).map f,rfl,hl,⟨by simp,fun h1=>?_⟩,?_,fun y hy=>?_⟩
  ·have e0:a.add (0*sz)=a:=by simp[Addr.add]
   have h00:=(Qjh (hf 0 h1).1).2 0 h0
   rw[e0]at h00
   have e1:a.add 0=a:=by simp[Addr.add]
   rw[e1,QCv (by rw[hF];exact h0)]at h00
   obtain⟨h1,h2⟩:=QhX h00
   obtain⟨b,o,s⟩:=a
   simp only at h1
   subst h1
   refine⟨b,o,rfl,h2,fun j i v hj hv=>?_⟩
   rw[hfl j hj]at hv
   have hi:i<sz:=by
    have:=(QCK.1 hv).1
    rwa [hF]at this
   have:=(Qjh (hf j hj).1).2 i hi
   rw[Qdl,Qdl]at this
   rw[this]
   exact hv
  ·simp only[uptoBulk]
   omega
  ·obtain⟨j,hj,rfl⟩:=QC7.1 hy
   refine hG _ _ _ ?_ (hf j (QDC.1 hj)).2
   simp only[uptoBulk]
   omega
end
section
variable {H:Type} {enc:TypeId×Value→H} {w:World} {base b0:Nat} {sp:Nat→Bool} {held:Bool} {r:Reach}
theorem QuT {fuel i:Nat} {cs:List Value} {x:DataW H×List MemPlace} (h:DataW.trod enc Tryz.prog w base sp held fuel 3 ((cs.drop i).take (Tryz.prog.cellsOf 3))=some x):∃z:Int,cs[i]?=some (.int .i64 z):=by
 rw[show Tryz.prog.cellsOf 3=1 by kernel_rfl]at h
 obtain⟨z,hz,_,_⟩:=DataW.trod_int Tryz.underlying3 h
 exact⟨z,QjE hz⟩
theorem Qub {fuel i:Nat} {cs:List Value} {x:DataW H×List MemPlace} (h:DataW.trod enc Tryz.prog w base sp held fuel 31 ((cs.drop i).take (Tryz.prog.cellsOf 31))=some x):∃z:UInt64,cs[i]?=some (W64 z):=by
 rw[show Tryz.prog.cellsOf 31=1 by kernel_rfl]at h
 obtain⟨z,hz,_,hw⟩:=DataW.trod_int Tryz.underlying31 h
 have hr:0≤z∧z≤18446744073709551615:=by simpa [Lit.wf,IntKind.min,IntKind.max,IntKind.signed,IntKind.bits] using hw
 exact⟨_,by rw[QjE hz,Qbc z hr.1 (by omega)]⟩
end
end Go.Proofs.YtdkpcdgckgaklaaGreat
namespace Go.Proofs.YtdkpcdgckgaklaaGreat
open Go.RowKit
open Go.ChangeShapes Go.WideShapes Go.ChangeAt
open _root_.Go.Proofs.YtdkpcdgckgaklaaGreat.Rows (uptoBulk uptoBulkAll uptoSmall)
open Go.ChangeMaps (open_string shut_string)
structure Emt where
 tk:Int
 id:UInt64
 bs:List UInt8
 A:Option Addr
 n:Nat
 c:Nat
def emt0:Emt:=⟨0,0,[],none,0,0⟩
def EmC (e:Emt):List Value:=[.int .i64 e.tk,W64 e.id,.slice e.A e.n e.c]
theorem QfK (e:Emt):(EmC e).length=3:=rfl
theorem QkB (e:Emt):∀u∈EmC e,u.oneCell'=true:=by
 intro u hu
 simp only[EmC,QCQ,QCT,or_false]at hu
 rcases hu with rfl|rfl|rfl<;>rfl
def EmOk (w:World) (e:Emt):Prop:=e.n≤e.c∧RdB w e.A e.n e.bs
theorem EmOk.later {w w':World} {e:Emt} (h:EmOk w e) (l:Later w w'):EmOk w' e:=⟨h.1,h.2.later l⟩
section
variable {H:Type} {enc:TypeId×Value→H} {w:World} {base b0:Nat} {sp:Nat→Bool} {held:Bool} {r:Reach}
set_option maxRecDepth 100000 in
theorem QsC {fuel:Nat} {cs:List Value} {x:DataW H×List MemPlace} (h:DataW.trod enc Tryz.prog w base sp held fuel 50 cs=some x):∃y:Emt,cs=EmC y∧EmOk w y∧y.n+1≤uptoBulk x.1:=by
 obtain⟨xs,m,rfl,rfl,hl,hxl,he⟩:=DataW.trod_struct Tryz.underlying50 h
 have hn:Tryz.prog.cellsOf 50=3:=by kernel_rfl
 have hB:Tryz.prog.cellsOf 32=1:=by kernel_rfl
 rw[hn]at hl
 have hxl3:xs.length=3:=hxl
 have g:∀i,i<3→xs[i]?=some (xs.getD i (.nil,[])):=fun i hi=>by rw[QCu,QCv (by omega)];rfl
 have e2:DataW.trod enc Tryz.prog w base sp held m 32 ((cs.drop 2).take (Tryz.prog.cellsOf 32))=some (xs.getD 2 (.nil,[])):=(he 2 _ rfl).trans (g 2 (by omega))
 obtain⟨tk,htk⟩:=QuT (i:=0) ((he 0 _ rfl).trans (g 0 (by omega)))
 obtain⟨id,hid⟩:=Qub (i:=1) ((he 1 _ rfl).trans (g 1 (by omega)))
 rw[hB]at e2
 match cs,hl with
 | [a,b,c],_=>
   have htk':a= .int .i64 tk:=by simpa using htk
   have hid':b=W64 id:=by simpa using hid
   simp only[List.drop_zero,QD0,List.take_succ_cons,QEm]at e2
   obtain⟨B,k,cp2,bs,hb',h5,h6,h7,h8⟩:=Qqo Tryz.underlying32 Tryz.underlying5 Qy1 e2
   have hbl:=h7.len
   have b1:=QhJ (d:=(xs.getD 2 (.nil,[])).1) (l:=xs.map (·.1)) (QC7.2 ⟨_,List.mem_of_getElem? (g 2 (by omega)),rfl⟩)
   refine⟨⟨tk,id,bs,B,k,cp2⟩,by rw[htk',hid',hb'];rfl,⟨h5,h7⟩,?_⟩
   simp only[uptoBulk]
   show k+1≤_
   omega
set_option maxRecDepth 100000 in
theorem Qpo {v:Value} {d:DataW H} {ps:List MemPlace} (ht:Tryz.prog.underlying 23=some (.slice 50)) (hval:Value.okWide Tryz.prog w r b0 23 v) (h:DataW.Trod enc Tryz.prog w base sp held 23 v d ps):
 ∃A n c xs,v= .slice A n c∧n≤c∧RdF EmC 3 emt0 w A n xs∧n+1≤uptoBulk d∧∀y∈xs,EmOk w y∧y.n≤uptoBulk d:=by
 obtain⟨A,n,c,rfl⟩:=okWide_slice ht hval
 obtain⟨f,hf⟩:=h
 obtain⟨A',n',c',ns,h1,h2,h3,h4,h5⟩:=Qsn (F:=EmC) (sz:=3) emt0 (G:=fun y k=>EmOk w y∧y.n≤k) ht (by kernel_rfl) (by omega) QfK (fun y m n hm hy=>⟨hy.1,QC4 hy.2 hm⟩) (fun _ _ _ h=>by obtain⟨y,a,b,c⟩:=QsC h;exact⟨y,a,b,by omega⟩) hf
 exact⟨A',n',c',ns,h1,h2,h3,h4,h5⟩
end
end Go.Proofs.YtdkpcdgckgaklaaGreat
namespace Go.Proofs.YtdkpcdgckgaklaaGreat
open Go.RowKit
open Go.BigFrame
def dlv1 (xs:List Nod) (e:Emt):List Arr:=
 if (Qa3 xs e.tk e.id e.bs).er=0∧arvE (Qa3 xs e.tk e.id e.bs).vs (Qa3 xs e.tk e.id e.bs).bd=0 then [arvA (Qa3 xs e.tk e.id e.bs).vs (Qa3 xs e.tk e.id e.bs).bd (Qa3 xs e.tk e.id e.bs).tk] else []
def dlvU (xs:List Nod) (es:List Emt):List Arr:=es.flatMap (dlv1 xs)
def dlvS (xs:List Nod) (es:List Emt):List Arr:=srt Arr.tk arr0 (dlvU xs es) ((dlvU xs es).length-1)
theorem Qe6 (xs:List Nod) (es:List Emt) (k:Nat) (h:k<es.length):dlvU xs (es.take (k+1))=dlvU xs (es.take k)++dlv1 xs (es.getD k emt0):=by
 rw[dlvU,dlvU,QCY h,QDZ,QCu,QCv h]
 simp
section
variable {α β:Type} {f:α→β} {kb:β→Int} {d:α}
theorem Qxm (l:List α) (j:Nat):(swp d l j).map f=swp (f d) (l.map f) j:=by
 have g:∀i,f (l.getD i d)=(l.map f).getD i (f d):=fun i=>by
  rw[QCu,QCu,QCH]
  cases l[i]?<;>rfl
 rw[swp,swp,QEy,QEy,g,g]
theorem Qoq:∀(j:Nat) (l:List α),(sink (fun x=>kb (f x)) d l j).map f=sink kb (f d) (l.map f) j
 | 0,_=>rfl
 | j+1,l=>by
   have g:∀i,f (l.getD i d)=(l.map f).getD i (f d):=fun i=>by
    rw[QCu,QCu,QCH]
    cases l[i]?<;>rfl
   rw[sink,sink,g,g]
   split
   ·rw[Qoq j,Qxm]
   ·rfl
theorem QsY (l:List α):∀k:Nat,(srt (fun x=>kb (f x)) d l k).map f=srt kb (f d) (l.map f) k
 | 0=>rfl
 | k+1=>by rw[srt,srt,Qoq,QsY l k]
end
theorem Qyj (gs:List Arw) (k:Nat):(srt awK aw0 gs k).map (·.ar)=srt Arr.tk arr0 (gs.map (·.ar)) k:=QsY (f:=fun x:Arw=>x.ar) (kb:=Arr.tk) (d:=aw0) gs k
def awB (g:Arw):Option Nat:=(Value.slice g.va g.vn g.vc).ownBlock
theorem Quv {gs:List Arw} {g:Arw} {wr w5:World} {base k:Nat} {bs:List UInt8} (h:(gs.filterMap awB).Nodup) (ho:∀g∈gs,AwOk wr base g) (hs:wr.heap.size≤k) (hn:OwnB w5 k g.va g.vn g.vc bs):((gs++[g]).filterMap awB).Nodup:=by
 rw[List.filterMap_append,List.nodup_append]
 refine⟨h,?_,fun a ha b hb=>?_⟩
 ·cases e:awB g<;>simp[e]
 ·obtain⟨x,hx,hxa⟩:=List.mem_filterMap.1 ha
  obtain⟨y,hy,hyb⟩:=List.mem_filterMap.1 hb
  obtain rfl:=QDH.1 hy
  have h1:=(World.ownsRow.lt (ho x hx) a hxa).2
  have h2:=(World.ownsRow.lt hn b hyb).1
  omega
theorem QsN:(Tryz.prog.info? 50).map (·.size)=some 3:=by kernel_rfl
set_option maxRecDepth 100000 in
set_option maxHeartbeats 4000000 in
theorem Qmw (A D:Option Addr) (n c m e:Nat) (xs:List Nod) (es:List Emt) (w:World) (hx:RdN w A n xs) (hn:n≤1048576) (hs:∀x∈xs,x.nm.size≤140737488355328) (hes:RdF EmC 3 emt0 w D m es) (hok:∀y∈es,EmOk w y) (hm:m<20):
 Calls Tryz.prog 5 #[.slice A n c,.slice D m e] w fun x w'=>∃(A':Option Addr) (c':Nat) (gs:List Arw),x= .returned (.slice A' gs.length c')∧w'.ownsRow w.heap.size 37 24 (.slice A' gs.length c') gs.length (gs.flatMap ArC)∧
  gs.length≤m∧gs.map (·.ar)=dlvS xs es∧(∀ g∈gs,AwOk w' w.heap.size g)∧(gs.filterMap awB).Nodup∧Later w w':=by
 have hel:=hes.1
 go_enter Tryz.func5,Tryz.ntmps5
 go_wp2_with fail
 go_loopw [5,13] (fun v5 i wr=>∃(k:Nat) (gs:List Arw) (A':Option Addr) (c':Nat),k≤m∧i= .int .i64 k∧v5= .slice A' gs.length c'∧gs.length≤k∧Later w wr∧wr.ownsRow w.heap.size 37 24 (.slice A' gs.length c') gs.length (gs.flatMap ArC)∧Hid (gs.map (·.ar)=dlvU xs (es.take k))∧(∀ g∈gs,AwOk wr w.heap.size g)∧Hid (gs.length=0→A'=none)∧(gs.filterMap awB).Nodup) (fun _ i _=>m-(intOf i).toNat)
 case atStart=>exact⟨0,[],none,0,by omega,rfl,rfl,QCx _,Later.refl _,⟨by simp,.inl ⟨rfl,rfl⟩⟩,hid rfl,by simp,hid (fun _=>rfl),by simp⟩
 case round=>
  obtain⟨k,gs,A2,c2,hk,rfl,rfl,hgl,L,hown,hgs,hgo,hnl,hnd⟩:=hrel
  by_cases hlt:k<m
  ·obtain⟨b,o,rfl,hb,hc⟩:=(hes.later L).at_ hlt
   have hmem:es.getD k emt0∈es:=by
    rw[QCu,QCv (by omega)]
    exact QDn _
   have hst:=hid (Qe6 xs es k (by omega))
   have hyk:=(hok _ hmem).later L
   generalize es.getD k emt0=y at *
   obtain⟨tk,id,bs,B,en,ec⟩:=y
   obtain⟨hec,hrd⟩:=hyk
   simp only at hec hrd
   have hd1:dlv1 xs ⟨tk,id,bs,B,en,ec⟩=if (Qa3 xs tk id bs).er=0∧arvE (Qa3 xs tk id bs).vs (Qa3 xs tk id bs).bd=0 then [arvA (Qa3 xs tk id bs).vs (Qa3 xs tk id bs).bd (Qa3 xs tk id bs).tk] else []:=rfl
   have hCa:=hid (fun w h1 h2=>Qqg A B n c en ec xs tk id bs w h1 hn hs h2 hec)
   have hvl:(Qa3 xs tk id bs).vs.length≤16:=Qjw xs tk id bs
   generalize Qa3 xs tk id bs=R at *
   generalize dlv1 xs ⟨tk,id,bs,B,en,ec⟩=D1 at *
   clear hmem
   go_wp2_with (first
    | (refine go_l rfl ?_;refine Qal ?hw _ _ rfl b (o+k*3) (emC tk id B en ec) hc rfl _ Tryz.underlying50 rfl QsN ?_;(case hw=>rfl))
    | (refine QbG rfl ?_;refine Qaf rfl rfl _ _ _ rfl wr.heap.size _ _ (emC tk id B en ec) (Blk.new wr _ (EmC emt0)) rfl rfl 3 QsN rfl rfl (QkB ⟨tk,id,bs,B,en,ec⟩) ?_;intro w2 hb2 ho2
       have l2:Later wr w2:=(Qaa wr _).only ho2 (QCx _))
    | (refine go_l rfl ?_;refine Qal ?hw _ _ rfl wr.heap.size 0 (emC tk id B en ec) (fun j v hv=>by rw[QCI];exact hb2.cellD j hv) rfl _ Tryz.underlying50 rfl QsN ?_;(case hw=>rfl))
    | fail)
   refine (hCa.out w2 (hx.later (L.trans l2)) (hrd.later l2)).mono ?_
   rintro x w3 ⟨A3,c3,B3,d3,rfl,rv,ob,l3⟩
   have rb:=OwnB.rd ob
   have hbd:=OwnB.cap ob
   clear hCa hc hb
   by_cases hE:R.er=0
   ·have fE:((R.er:Int) != 0)=false:=by rw[hE];rfl
    have hA:=hid (fun w h1 h2=>Qui A3 B3 R.vs.length c3 R.bd.length d3 R.vs R.bd R.tk w h1 (by omega) h2 hbd)
    have hd2:arvE R.vs R.bd=0→D1=[arvA R.vs R.bd R.tk]:=fun h=>by rw[hd1,if_pos ⟨hE,h⟩]
    have hd3:arvE R.vs R.bd≠0→D1=[]:=fun h=>by rw[hd1,if_neg (fun h'=>h h'.2)]
    clear hd1 hE
    replace hd2:=hid hd2
    replace hd3:=hid hd3
    generalize arvE R.vs R.bd=AE at *
    generalize arvA R.vs R.bd R.tk=AA at *
    go_wp2_with (first
     | (refine QbG rfl ?_;refine Qaf rfl rfl _ _ _ rfl w3.heap.size _ _ (tr1 A3 R.vs.length c3 B3 R.bd.length d3 R.tk) (Blk.new w3 _ tz0) rfl rfl 3 QcF rfl rfl (Qdm _ _ _ _ _ _ _) ?_;intro w4 hb4 ho4
        have l4:Later w3 w4:=(Qaa w3 _).only ho4 (QCx _))
     | (refine go_l rfl ?_;refine Qal ?hw _ _ rfl w3.heap.size 0 (tr1 A3 R.vs.length c3 B3 R.bd.length d3 R.tk) (fun j v hv=>by rw[QCI];exact hb4.cellD j hv) rfl _ Tryz.underlying45 rfl QcF ?_;(case hw=>rfl))
     | fail)
    refine (hA.out w4 (rv.later l4) (rb.later l4)).mono ?_
    rintro x w5 ⟨A5,c5,rfl,own5,l5⟩
    have L5:=((l2.trans l3).trans l4).trans l5
    by_cases hAE:AE=0
    ·subst hAE
     have hD:=hid (hd2.out rfl)
     clear hd2 hd3 hA
     go_wp2_with (first
      | (refine QbG rfl ?_;refine Qaf rfl rfl _ _ _ rfl w5.heap.size _ _ (AvC ⟨AA,.slice A5 AA.pt.da.length c5⟩) (Blk.new w5 _ (AvC av0)) rfl rfl 24 Qa0 (Qak _) (Qak av0) (QaP _ _ _ _) ?_;intro w6 hb6 ho6
         have l6:Later w5 w6:=(Qaa w5 _).only ho6 (QCx _))
      | (refine go_l rfl ?_;refine Qal ?hw _ _ rfl w5.heap.size 0 (AvC ⟨AA,.slice A5 AA.pt.da.length c5⟩) (fun j v hv=>by rw[QCI];exact hb6.cellD j hv) rfl _ Tryz.underlying37 rfl (by rw[Qak];exact Qa0) ?_;(case hw=>rfl))
      | (refine go_s rfl ?_;refine Qcj ?hw 25 _ rfl 37 24 _ (AvC ⟨AA,.slice A5 AA.pt.da.length c5⟩) Tryz.underlying25 QwG (by omega) (by omega) (Qak _) rfl ?_;(case hw=>rfl))
      | (refine go_a rfl ?_;refine QaW (F:=ArC) (d:=aw0) QaK QeD (by omega) rfl _ _ _ rfl 37 _ 96 Tryz.underlying25 QyY rfl w _ _ _ (QaC hown ((L5.trans l6).trans (Qaa _ _))) (L.trans ((L5.trans l6).trans (Qaa _ _))) (some ⟨w6.heap.size,0,none⟩) 1 1 [⟨AA,A5,AA.pt.da.length,c5⟩] (QeP QaK (show Blk (w6.alloc (.cells (ArC ⟨AA,A5,AA.pt.da.length,c5⟩).toArray 37)) w6.heap.size 37 ([(⟨AA,A5,AA.pt.da.length,c5⟩:Arw)].flatMap ArC) by simp only[QDi,QEu,QC1];exact Blk.new w6 _ _) rfl) rfl rfl (by omega) (by omega) ?_;intro A8 c8 w8 hown8 hl8 hg8)
      | fail)
     have L6:=L5.trans l6
     have hgo8:∀g∈gs++[⟨AA,A5,AA.pt.da.length,c5⟩],AwOk w8 w.heap.size g:=by
      intro g hg
      have hr:=QaC hown (L6.trans (Qaa w6 (.cells (ArC ⟨AA,A5,AA.pt.da.length,c5⟩).toArray 37)))
      rcases QDc.1 hg with hg|hg
      ·exact QbT (Qap (hgo g hg) (L6.trans (Qaa _ _))) hr (by decide) hg8
      ·obtain rfl:g=⟨AA,A5,AA.pt.da.length,c5⟩:=by simpa using hg
       exact QbT (Qap (Qbb own5 (L.trans ((l2.trans l3).trans l4)).size) (l6.trans (Qaa _ _))) hr (by decide) hg8
     have hgl8:(gs++[(⟨AA,A5,AA.pt.da.length,c5⟩:Arw)]).length=gs.length+1:=by simp
     exact⟨⟨k+1,gs++[⟨AA,A5,AA.pt.da.length,c5⟩],A8,c8,by omega,by go_num,by rw[hgl8],by omega,hl8,by rw[hgl8,QDZ];exact hown8,hid (by rw[QC6,hgs.out,hst.out,hD.out];rfl),hgo8,hid (fun h=>by rw[hgl8]at h;omega),Quv hnd hgo ((l2.trans l3).trans l4).size own5⟩,by simp[intOf];omega⟩
    ·have fA:((AE:Int) != 0)=true:=bne_iff_ne.2 (by omega)
     have hD:=hid (hd3.out hAE)
     clear hd2 hd3 hA hAE
     go_wp2_with (first
      | (refine QbG rfl ?_;refine Qaf rfl rfl _ _ _ rfl w5.heap.size _ _ (AvC ⟨AA,.slice A5 AA.pt.da.length c5⟩) (Blk.new w5 _ (AvC av0)) rfl rfl 24 Qa0 (Qak _) (Qak av0) (QaP _ _ _ _) ?_;intro w6 hb6 ho6
         have l6:Later w5 w6:=(Qaa w5 _).only ho6 (QCx _))
      | fail)
     have L6:=L5.trans l6
     exact⟨⟨k+1,gs,A2,c2,by omega,by go_num,rfl,by omega,L.trans L6,QaC hown L6,hid (by rw[hst.out,hD.out,QC1];exact hgs.out),fun g hg=>Qap (hgo g hg) L6,hnl,hnd⟩,by simp[intOf];omega⟩
   ·have fE:((R.er:Int) != 0)=true:=bne_iff_ne.2 (by omega)
    have hD:Hid (D1=[]):=hid (by rw[hd1,if_neg (fun h=>hE h.1)])
    clear hd1 hE
    go_wp2_with (first
     | (refine QbG rfl ?_;refine Qaf rfl rfl _ _ _ rfl w3.heap.size _ _ (tr1 A3 R.vs.length c3 B3 R.bd.length d3 R.tk) (Blk.new w3 _ tz0) rfl rfl 3 QcF rfl rfl (Qdm _ _ _ _ _ _ _) ?_;intro w4 hb4 ho4
        have l4:Later w3 w4:=(Qaa w3 _).only ho4 (QCx _))
     | fail)
    have L4:=(l2.trans l3).trans l4
    exact⟨⟨k+1,gs,A2,c2,by omega,by go_num,rfl,by omega,L.trans L4,QaC hown L4,hid (by rw[hst.out,hD.out,QC1];exact hgs.out),fun g hg=>Qap (hgo g hg) L4,hnl,hnd⟩,by simp[intOf];omega⟩
  ·obtain rfl:k=m:=by omega
   have hU:gs.map (·.ar)=dlvU xs es:=by rw[hgs.out,QCE (by omega)]
   have hgU:gs.length=(dlvU xs es).length:=by rw[←hU,QCt]
   have hSd:(srt awK aw0 gs (gs.length-1)).map (·.ar)=dlvS xs es:=by rw[Qyj,hU,dlvS,hgU]
   have hSl:(srt awK aw0 gs (gs.length-1)).length=gs.length:=Qc6 _
   replace hSd:=hid hSd
   clear hU hgU
   rcases QD6 gs.length with h0|h0
   ·obtain rfl:gs=[]:=QC0 h0
    obtain rfl:=hnl.out rfl
    go_wp2_with fail
    refine (QtG c2 wr).mono ?_
    rintro e w1 ⟨rfl,rfl⟩
    go_wp2_with fail
    go_ret
    exact⟨none,c2,[],rfl,hown,QEk _,hSd.out,by simp,by simp,L⟩
   ·obtain⟨g,rest,rfl,hbg,hB,hnc,hcm,hbl⟩:=QkN hown h0
    go_wp2_with fail
    refine (Qut w.heap.size g gs.length c2 gs wr hown rfl (by omega)).mono ?_
    rintro e w1 ⟨rfl,own1,ho1⟩
    have hPm:=(QoH (key:=awK) (d:=aw0) (l:=gs) (gs.length-1) (by omega)).filterMap awB
    have hmem:=hid (fun x hx=>Qnj (key:=awK) (d:=aw0) (l:=gs) (gs.length-1) (by omega) x hx)
    generalize srt awK aw0 gs (gs.length-1)=GS at *
    go_wp2_with fail
    go_ret
    exact⟨some ⟨g,0,none⟩,c2,GS,by rw[hSl];rfl,by rw[hSl];exact own1,by rw[hSl];exact hgl,hSd.out,fun q hq=>Qar (hgo q (hmem.out q hq)) hB (by decide) ho1,hPm.nodup_iff.2 hnd,L.only ho1 hbg⟩
theorem Qu4 {xs:List Nod} {y z:Emt} (h1:y.tk=z.tk) (h2:y.id=z.id) (h3:y.bs=z.bs):dlv1 xs y=dlv1 xs z:=by rw[dlv1,dlv1,h1,h2,h3]
theorem Qt7 {xs:List Nod} {es fs:List Emt} (hl:es.length=fs.length) (h:∀j,j<es.length→(es.getD j emt0).tk=(fs.getD j emt0).tk∧(es.getD j emt0).id=(fs.getD j emt0).id∧(es.getD j emt0).bs=(fs.getD j emt0).bs):dlvU xs es=dlvU xs fs:=by
 have:∀k,k≤es.length→dlvU xs (es.take k)=dlvU xs (fs.take k):=by
  intro k
  induction k with
  | zero=>intro _;rfl
  | succ k ih=>
    intro hk
    obtain⟨a,b,c⟩:=h k (by omega)
    rw[Qe6 xs es k (by omega),Qe6 xs fs k (by omega),ih (by omega),Qu4 a b c]
 have:=this es.length (QCx _)
 rwa [QCE (QCx _),QCE (by omega)]at this
theorem Quk {xs:List Nod} {es fs:List Emt} (hl:es.length=fs.length) (h:∀j,j<es.length→(es.getD j emt0).tk=(fs.getD j emt0).tk∧(es.getD j emt0).id=(fs.getD j emt0).id∧(es.getD j emt0).bs=(fs.getD j emt0).bs):dlvS xs es=dlvS xs fs:=by
 rw[dlvS,dlvS,Qt7 hl h]
theorem QpV (N i:Nat) (h:i<N):N-(intOf (.int .i64 ((i:Int)+1))).toNat<N-(intOf (.int .i64 (i:Int))).toNat:=by
 simp[intOf]
 omega
theorem QtM:(Tryz.prog.info? 50).map (fun i=>(i.zero,i.size))=some (some (.agg (EmC emt0).toArray),3):=by kernel_rfl
theorem QwM:(Tryz.prog.info? 50).map (fun i=>(i.zero,i.size,i.bytes))=some (some (.agg (EmC emt0).toArray),3,40):=by kernel_rfl
theorem Qfp:(Tryz.prog.info? 50).map (·.size)=some 3:=by kernel_rfl
set_option maxRecDepth 100000 in
set_option maxHeartbeats 2000000 in
theorem Qty (tk:Int) (id:UInt64) (B:Option Addr) (m e:Nat) (b:List UInt8) (w:World) (hb:RdB w B m b) (hm:m≤140737488355328):
 Calls Tryz.prog 15 #[.agg (emC tk id B m e).toArray] w fun x w'=>∃A' c',x= .returned (.agg (emC tk id A' m c').toArray)∧OwnB w' w.heap.size A' m c' b∧Later w w':=by
 have C1:=Qa8 w 50 (emC tk id B m e)
 have C2:Bag w ((w.alloc (.cells (emC tk id B m e).toArray 50)).alloc (.cells (EmC emt0).toArray 50)) [(w.heap.size+1,50,EmC emt0),(w.heap.size,50,emC tk id B m e)]:=
  C1.add (Qaa _ _) (by simp) (by omega) (Blk.new' _ _ (EmC emt0) (by simp))
 have e2:=(C2.nth 1 rfl).cellD 2 (u:=.slice B m e) rfl
 go_enter Tryz.func15,Tryz.ntmps15
 go_wp2_with fail
 refine (Qcf B m e b _ (hb.later C2.lat) hm).mono ?_
 rintro x w3 ⟨A3,c3,rfl,o3,l3⟩
 have C3:=C2.later l3
 have o3':=Qbb o3 C2.lat.size
 go_wp2_with (first
  | (refine QbG rfl ?_;refine Qac rfl rfl _ _ _ rfl w.heap.size 2 _ _ (C3.nth 1 rfl) rfl (by simp) rfl (by kernel_rfl) ?_;intro v4 w4 hv4 hb4 ho4;simp[go_sem]at hv4;subst hv4
     have C4:=C3.write 1 rfl ho4 hb4
     have o4:=Qar o3' (C3.nth 1 rfl) (by decide) ho4)
  | (refine go_l rfl ?_;refine Qal ?hw _ _ rfl w.heap.size 0 (emC tk id A3 m c3) (fun j v hv=>by rw[QCI];exact (C4.nth 1 rfl).cellD j hv) rfl _ Tryz.underlying50 rfl Qfp ?_;(case hw=>rfl))
  | (refine QbG rfl ?_;refine Qaf rfl rfl _ _ _ rfl (w.heap.size+1) _ _ (emC tk id A3 m c3) (C4.nth 0 rfl) rfl rfl 3 Qfp rfl rfl (QkB ⟨tk,id,[],A3,m,c3⟩) ?_;intro w5 hb5 ho5)
  | fail)
 have o5:=Qar o4 (C4.nth 0 rfl) (by decide) ho5
 exact bodyPost_ret (QaF rfl _ _ _ _ _ _ hb5 rfl Tryz.underlying50 rfl Qfp) rfl ⟨A3,c3,rfl,o5,C4.lat.only ho5 (by omega)⟩
set_option maxRecDepth 100000 in
set_option maxHeartbeats 4000000 in
theorem QmM (D:Option Addr) (m e:Nat) (es:List Emt) (w:World) (hes:RdF EmC 3 emt0 w D m es) (hok:∀y∈es,EmOk w y∧y.n≤140737488355328) (hm:m≤1048576):
 Calls Tryz.prog 6 #[.slice D m e] w fun x w'=>∃(A':Option Addr) (c':Nat) (fs:List Emt),x= .returned (.slice A' m c')∧RdF EmC 3 emt0 w' A' m fs∧(∀ y∈fs,EmOk w' y)∧Later w w'∧
  fs.length=es.length∧∀j,j<fs.length→(fs.getD j emt0).tk=(es.getD j emt0).tk∧(fs.getD j emt0).id=(es.getD j emt0).id∧(fs.getD j emt0).bs=(es.getD j emt0).bs:=by
 have hel:=hes.1
 go_enter Tryz.func6,Tryz.ntmps6
 go_wp2_with fail
 go_loopw [3,8] (fun v3 i wr=>∃(k:Nat) (fs:List Emt) (A':Option Addr) (c':Nat),k≤m∧i= .int .i64 k∧v3= .slice A' k c'∧fs.length=k∧Later w wr∧wr.ownsRow w.heap.size 50 3 (.slice A' k c') k (fs.flatMap EmC)∧(∀ y∈fs,OwnB wr w.heap.size y.A y.n y.c y.bs)∧
  Hid (∀ j,j<k→(fs.getD j emt0).tk=(es.getD j emt0).tk∧(fs.getD j emt0).id=(es.getD j emt0).id∧(fs.getD j emt0).bs=(es.getD j emt0).bs)) (fun _ i _=>m-(intOf i).toNat)
 case atStart=>exact⟨0,[],none,0,by omega,rfl,rfl,rfl,Later.refl _,⟨by simp,.inl ⟨rfl,rfl⟩⟩,by simp,hid (fun j hj=>absurd hj (by omega))⟩
 case round=>
  obtain⟨k,fs,A2,c2,hk,rfl,rfl,hfl,L,hown,hfo,hkey⟩:=hrel
  by_cases hlt:k<m
  ·obtain⟨b,o,rfl,hb,hc⟩:=(hes.later L).at_ hlt
   have hmem:es.getD k emt0∈es:=by
    rw[QCu,QCv (by omega)]
    exact QDn _
   obtain⟨hyo,hyn⟩:=hok _ hmem
   have hyk:=hyo.later L
   have hkn:=hid (fun (y:Emt) (h:y.tk=(es.getD k emt0).tk∧y.id=(es.getD k emt0).id∧y.bs=(es.getD k emt0).bs)=>(fun j (hj:j<k+1)=>by
    rcases QDq j k with h'|h'
    ·rw[show (fs++[y]).getD j emt0=fs.getD j emt0 by rw[QCu,QCD (by omega),QCu]]
     exact hkey.out j h'
    ·obtain rfl:j=k:=by omega
     rw[show (fs++[y]).getD j emt0=y by rw[QCu,QCF (by omega),hfl,QEB];rfl]
     exact h:∀j,j<k+1→((fs++[y]).getD j emt0).tk=(es.getD j emt0).tk∧((fs++[y]).getD j emt0).id=(es.getD j emt0).id∧((fs++[y]).getD j emt0).bs=(es.getD j emt0).bs))
   generalize es.getD k emt0=y at *
   obtain⟨tk,id,bs,B,en,ec⟩:=y
   obtain⟨hec,hrd⟩:=hyk
   simp only at hec hrd hyn hkn
   have hsz:(k+1)*40≤140737488355328:=by omega
   clear hmem hkey hyo
   go_wp2_with (first
    | (refine go_l rfl ?_;refine Qal ?hw _ _ rfl b (o+k*3) (emC tk id B en ec) hc rfl _ Tryz.underlying50 rfl Qfp ?_;(case hw=>rfl))
    | (refine QbG rfl ?_;refine Qaf rfl rfl _ _ _ rfl wr.heap.size _ _ (emC tk id B en ec) (Blk.new wr _ (EmC emt0)) rfl rfl 3 Qfp rfl rfl (QkB ⟨tk,id,bs,B,en,ec⟩) ?_;intro w2 hb2 ho2
       have l2:Later wr w2:=(Qaa wr _).only ho2 (QCx _))
    | (refine go_l rfl ?_;refine Qal ?hw _ _ rfl wr.heap.size 0 (emC tk id B en ec) (fun j v hv=>by rw[QCI];exact hb2.cellD j hv) rfl _ Tryz.underlying50 rfl Qfp ?_;(case hw=>rfl))
    | fail)
   refine (Qty tk id B en ec bs w2 (hrd.later l2) hyn).mono ?_
   rintro x w3 ⟨A3,c3,rfl,o3,l3⟩
   have L3:=l2.trans l3
   have hown3:=QaC hown L3
   have o3':=Qbb o3 (L.trans l2).size
   go_wp2_with (first
    | (refine go_s rfl ?_;refine Qcj ?hw 23 _ rfl 50 3 _ (emC tk id A3 en c3) Tryz.underlying23 QtM (by omega) (by omega) rfl rfl ?_;(case hw=>rfl))
    | (refine go_a rfl ?_;refine QaW (F:=EmC) (d:=emt0) QfK QkB (by omega) rfl _ _ _ rfl 50 _ 40 Tryz.underlying23 QwM rfl w _ _ _ (QaC hown3 (Qaa _ _)) ((L.trans L3).trans (Qaa _ _)) (some ⟨w3.heap.size,0,none⟩) 1 1 [⟨tk,id,bs,A3,en,c3⟩] (QeP QfK (show Blk (w3.alloc (.cells (emC tk id A3 en c3).toArray 50)) w3.heap.size 50 ([(⟨tk,id,bs,A3,en,c3⟩:Emt)].flatMap EmC) by simp only[QDi,QEu,QC1];exact Blk.new w3 _ _) rfl) rfl rfl hsz (by omega) ?_;intro A8 c8 w8 hown8 hl8 hg8)
    | fail)
   have jB:=Qaa w3 (.cells (emC tk id A3 en c3).toArray 50)
   have hown3':=QaC hown3 jB
   have hfo8:∀y∈fs++[(⟨tk,id,bs,A3,en,c3⟩:Emt)],OwnB w8 w.heap.size y.A y.n y.c y.bs:=by
    intro y hy'
    rcases QDc.1 hy' with hy'|hy'
    ·exact QbT (Qap (hfo y hy') (L3.trans jB)) hown3' (by decide) hg8
    ·obtain rfl:=QDH.1 hy'
     exact QbT (Qap o3' jB) hown3' (by decide) hg8
   have hfl8:(fs++[(⟨tk,id,bs,A3,en,c3⟩:Emt)]).length=k+1:=by rw[QCB,hfl];rfl
   rw[←QDZ]at hown8
   refine⟨⟨k+1,fs++[⟨tk,id,bs,A3,en,c3⟩],A8,c8,hlt,?_,?_,hfl8,hl8,hown8,hfo8,?_⟩,?_⟩
   ·go_num
   ·exact rfl
   ·exact hid (hkn.out _ ⟨rfl,rfl,rfl⟩)
   ·exact QpV _ _ hlt
  ·obtain rfl:k=m:=by omega
   go_wp2_with fail
   go_ret
   exact⟨A2,c2,fs,rfl,Qc5 QfK hown hfl,fun y hy'=>⟨OwnB.cap (hfo y hy'),OwnB.rd (hfo y hy')⟩,L,by rw[hfl,hel],by rw[hfl];exact hkey.out⟩
theorem QiP {α:Type} {F:α→List Value} {sz:Nat} {d:α} {w:World} {A:Option Addr} {n m:Nat} {xs:List α} (h:RdF F sz d w A n xs) (hm:m≤n):RdF F sz d w A m (xs.take m):=by
 refine⟨by rw[QCP,h.1];omega,fun h0=>?_⟩
 obtain⟨b,o,hA,hb,hc⟩:=h.2 (by omega)
 refine⟨b,o,hA,hb,fun j i v hj hv=>hc j i v (by omega) ?_⟩
 rw[QCu,QDt,if_pos hj]at hv
 rw[QCu]
 exact hv
theorem QlW {w:World} {base g sz:Nat} {e:TypeId} (h:Blk w g e []) (hb:base≤g):w.ownsRow base e sz (.slice (some ⟨g,0,none⟩) 0 0) 0 []:=
 ⟨by simp,.inr ⟨g,0,#[],rfl,hb,h,QEk _,QEk _,by simp,by simp⟩⟩
theorem QvP {A:Option Addr} {a b c:Nat} (h:a=b):Value.slice A a c=Value.slice A b c:=by rw[h]
theorem Qzd {q g k m:Nat} (h1:q≤g) (h2:g≤k) (h3:k<m) (h4:m<20):(0+q)*96≤140737488355328∧(q+1)*96≤140737488355328∧(q+1+(g-q))*96≤140737488355328:=by omega
theorem Qsd {q g:Nat} (h1:q≤g):min q g+(g-q+1)=q+1+(g-q):=by omega
theorem QvK {q g k:Nat} (h1:q≤g) (h2:g≤k):q+1+(g-q)≤k+1:=by omega
def offC (A:Option Addr) (l c sz:Nat):Option Addr:=if c=l then A else A.map fun a=>a.add (l*sz)
theorem QjK {P:Program} {t e:TypeId} {sz:Nat} (ht:P.underlying t=some (.slice e)) (hs:(P.info? e).map (·.size)=some sz) (A:Option Addr) (n c:Nat) (kl:IntKind) (l:Nat) (h1:l≤n) (W:World):
 (Instr.sliceAt t (.slice A n c) (some (.int kl (l:Int))) none none).run P W= .ok (.slice (offC A l c sz) (n-l) (c-l)) W:=by
 have he:P.elem t=e:=by unfold Program.elem;rw[ht]
 have ht':P.underlying t=some (.slice (P.elem t)):=by rw[he];exact ht
 rw[run_sliceAt_slice _ _ _ _ _ _ ht',run_slice_l (ht:=ht') (h0:=by omega) (h1:=by omega),he]
 cases hq:P.info? e with
 | none=>simp[hq]at hs
 | some i=>
   have hsz:i.size=sz:=by simpa [hq] using hs
   simp[sizeOf,typeInfo,hq,hsz,sliced,offC]
theorem QkS {P:Program} {t e:TypeId} {sz:Nat} (ht:P.underlying t=some (.slice e)) (hs:(P.info? e).map (·.size)=some sz) (A:Option Addr) (n c:Nat) (kh:IntKind) (h:Nat) (h2:h≤c) (W:World):
 (Instr.sliceAt t (.slice A n c) none (some (.int kh (h:Int))) none).run P W= .ok (.slice A h c) W:=by
 have he:P.elem t=e:=by unfold Program.elem;rw[ht]
 have ht':P.underlying t=some (.slice (P.elem t)):=by rw[he];exact ht
 rw[run_sliceAt_slice _ _ _ _ _ _ ht',run_slice_h (ht:=ht') (h0:=by omega) (h2:=by omega),he]
 cases hq:P.info? e with
 | none=>simp[hq]at hs
 | some i=>
   have hsz:i.size=sz:=by simpa [hq] using hs
   have h0:(if c=0 then A else A.map fun a=>a.add (0*sz))=A:=by
    split
    ·rfl
    ·cases A with
     | none=>rfl
     | some a=>simp[Addr.add]
   simp[sizeOf,typeInfo,hq,hsz,sliced]
   simpa using h0
theorem Qml {α:Type} {F:α→List Value} {sz:Nat} {d:α} {w:World} {A:Option Addr} {n m c:Nat} {xs:List α} (h:RdF F sz d w A n xs) (hm:m≤n) (hc:n≤c):RdF F sz d w (offC A m c sz) (n-m) (xs.drop m):=by
 refine⟨by rw[QCS,h.1],fun h0=>?_⟩
 obtain⟨b,o,rfl,hb,hcl⟩:=h.2 (by omega)
 refine⟨b,o+m*sz,by rw[offC,if_neg (by omega)];simp[Addr.add],hb,fun j i v hj hv=>?_⟩
 rw[QCu,QDU,←QCu]at hv
 have:=hcl (m+j) i v (by omega) hv
 rw[QEA]at this
 rw[show o+m*sz+j*sz=o+(m*sz+j*sz) by omega]
 exact this
theorem QdZ:(Tryz.prog.info? 39).map (·.size)=some 24:=by kernel_rfl
theorem Qg9:(Tryz.prog.info? 39).map (fun i=>(i.zero,i.size,i.bytes))=some (some (.agg (ArC aw0).toArray),24,96):=by kernel_rfl
theorem Qoy:(Tryz.prog.info? 39).map (fun i=>(i.zero,i.size))=some (some (.agg (ArC aw0).toArray),24):=by kernel_rfl
theorem QBX (q:Nat):(intOf (.int .i64 (q:Int))).toNat<(intOf (.int .i64 ((q:Int)+1))).toNat:=by
 simp[intOf]
theorem Qxv {xs:List Nod} {es:List Emt} {k:Nat} (hk:k<es.length) {a:Arr} (h:dlv1 xs (es.getD k emt0)=[a]):srtA Arr.tk arr0 (dlvU xs (es.take (k+1)))=insL Arr.tk arr0 (srtA Arr.tk arr0 (dlvU xs (es.take k))) a:=by
 rw[Qe6 xs es k hk,h,QsO]
theorem QyX {xs:List Nod} {es:List Emt} {k:Nat} (hk:k<es.length) (h:dlv1 xs (es.getD k emt0)=[]):srtA Arr.tk arr0 (dlvU xs (es.take (k+1)))=srtA Arr.tk arr0 (dlvU xs (es.take k)):=by
 rw[Qe6 xs es k hk,h,QC1]
set_option maxRecDepth 100000 in
set_option maxHeartbeats 8000000 in
theorem Qlf (A D:Option Addr) (n c m e:Nat) (xs:List Nod) (es:List Emt) (w:World) (hx:RdN w A n xs) (hn:n≤1048576) (hs:∀x∈xs,x.nm.size≤140737488355328) (hes:RdF EmC 3 emt0 w D m es) (hok:∀y∈es,EmOk w y∧y.n≤140737488355328) (hm:m<20):
 Calls Tryz.prog 7 #[.slice A n c,.slice D m e] w fun x w'=>∃(A':Option Addr) (c':Nat) (gs:List Arw),x= .returned (.slice A' gs.length c')∧RdF ArC 24 aw0 w' A' gs.length gs∧gs.map (·.ar)=dlvS xs es∧(∀ g∈gs,AwOk w' w.heap.size g)∧Later w w':=by
 have hel:=hes.1
 go_enter Tryz.func7,Tryz.ntmps7
 go_wp2_with fail
 go_loopw [5,6] (fun v5 v6 wr=>∃(k:Nat) (gs:List Arw) (A':Option Addr) (c':Nat),k≤m∧v6= .int .i64 k∧v5= .slice A' gs.length c'∧gs.length≤k∧gs.length≤c'∧Later w wr∧RdF ArC 24 aw0 wr A' gs.length gs∧Hid (gs.map (·.ar)=srtA Arr.tk arr0 (dlvU xs (es.take k)))∧(∀ g∈gs,AwOk wr w.heap.size g)) (fun _ v6 _=>m-(intOf v6).toNat)
 case atStart=>exact⟨0,[],none,0,by omega,rfl,rfl,QCx _,QCx _,Later.refl _,⟨rfl,fun h=>absurd h (by simp)⟩,hid rfl,by simp⟩
 case round=>
  obtain⟨k,gs,A2,c2,hk,rfl,rfl,hgl,hgc,L,hG,hgs,hgo⟩:=hrel
  by_cases hlt:k<m
  ·obtain⟨b,o,rfl,hb,hc⟩:=(hes.later L).at_ hlt
   have hmem:es.getD k emt0∈es:=by
    rw[QCu,QCv (by omega)]
    exact QDn _
   have hon:=hid (fun a h=>Qxv (xs:=xs) (es:=es) (k:=k) (by omega) (a:=a) h)
   have hno:=hid (fun h=>QyX (xs:=xs) (es:=es) (k:=k) (by omega) h)
   obtain⟨hyo,hyn⟩:=hok _ hmem
   have hyk:=hyo.later L
   generalize es.getD k emt0=y at *
   obtain⟨tk,id,bs,B,en,ec⟩:=y
   obtain⟨hec,hrd⟩:=hyk
   simp only at hec hrd hyn
   have hd1:dlv1 xs ⟨tk,id,bs,B,en,ec⟩=if (Qa3 xs tk id bs).er=0∧arvE (Qa3 xs tk id bs).vs (Qa3 xs tk id bs).bd=0 then [arvA (Qa3 xs tk id bs).vs (Qa3 xs tk id bs).bd (Qa3 xs tk id bs).tk] else []:=rfl
   have hCa:=hid (fun w h1 h2=>QpO A B n c en ec xs tk id bs w h1 hn hs h2 hec hyn)
   have hvl:(Qa3 xs tk id bs).vs.length≤16:=Qjw xs tk id bs
   generalize Qa3 xs tk id bs=R at *
   generalize dlv1 xs ⟨tk,id,bs,B,en,ec⟩=D1 at *
   generalize hLS:srtA Arr.tk arr0 (dlvU xs (es.take k))=LS at *
   generalize hLT:srtA Arr.tk arr0 (dlvU xs (es.take (k+1)))=LT at *
   replace hLS:=hid hLS
   replace hLT:=hid hLT
   clear hmem hyo
   go_wp2_with (first
    | (refine go_l rfl ?_;refine Qal ?hw _ _ rfl b (o+k*3) (emC tk id B en ec) hc rfl _ Tryz.underlying50 rfl Qfp ?_;(case hw=>rfl))
    | fail)
   refine (hCa.out wr (hx.later L) hrd).mono ?_
   rintro x w3 ⟨A3,c3,B3,d3,rfl,rv,ob,l3⟩
   have rb:=OwnB.rd ob
   have hbd:=OwnB.cap ob
   clear hCa hc hb
   by_cases hE:R.er=0
   case neg=>
    have fE:((R.er:Int) != 0)=true:=bne_iff_ne.2 (by omega)
    have hD:=hno.out (by rw[hd1,if_neg (fun h=>hE h.1)])
    clear hd1 hE hno hon
    go_wp2_with (first
     | (refine QbG rfl ?_;refine Qaf rfl rfl _ _ _ rfl w3.heap.size _ _ (tr1 A3 R.vs.length c3 B3 R.bd.length d3 R.tk) (Blk.new w3 _ tz0) rfl rfl 3 QbK rfl rfl (Qdm _ _ _ _ _ _ _) ?_;intro w4 hb4 ho4
        have l4:Later w3 w4:=(Qaa w3 _).only ho4 (QCx _))
     | fail)
    have L4:=l3.trans l4
    refine⟨⟨k+1,gs,A2,c2,hlt,?_,rfl,by omega,hgc,L.trans L4,hG.later L4,hid (by rw[hLT.out,hD];exact hgs.out),fun g hg=>Qap (hgo g hg) L4⟩,QpV _ _ hlt⟩
    go_num
   have fE:((R.er:Int) != 0)=false:=by rw[hE];rfl
   have hA:=hid (fun w h1 h2=>Qun A3 B3 R.vs.length c3 R.bd.length d3 R.vs R.bd R.tk w h1 (by omega) h2 hbd)
   have hd2:arvE R.vs R.bd=0→D1=[arvA R.vs R.bd R.tk]:=fun h=>by rw[hd1,if_pos ⟨hE,h⟩]
   have hd3:arvE R.vs R.bd≠0→D1=[]:=fun h=>by rw[hd1,if_neg (fun h'=>h h'.2)]
   clear hd1 hE
   replace hd2:=hid hd2
   replace hd3:=hid hd3
   generalize arvE R.vs R.bd=AE at *
   generalize arvA R.vs R.bd R.tk=AA at *
   go_wp2_with (first
    | (refine QbG rfl ?_;refine Qaf rfl rfl _ _ _ rfl w3.heap.size _ _ (tr1 A3 R.vs.length c3 B3 R.bd.length d3 R.tk) (Blk.new w3 _ tz0) rfl rfl 3 QbK rfl rfl (Qdm _ _ _ _ _ _ _) ?_;intro w4 hb4 ho4
       have l4:Later w3 w4:=(Qaa w3 _).only ho4 (QCx _))
    | (refine go_l rfl ?_;refine Qal ?hw _ _ rfl w3.heap.size 0 (tr1 A3 R.vs.length c3 B3 R.bd.length d3 R.tk) (fun j v hv=>by rw[QCI];exact hb4.cellD j hv) rfl _ Tryz.underlying61 rfl QbK ?_;(case hw=>rfl))
    | fail)
   refine (hA.out w4 (rv.later l4) (rb.later l4)).mono ?_
   rintro x w5 ⟨A5,c5,rfl,own5,l5⟩
   have L5:=(l3.trans l4).trans l5
   by_cases hAE:AE=0
   case neg=>
    have fA:((AE:Int) != 0)=true:=bne_iff_ne.2 (by omega)
    have hD:=hno.out (hd3.out hAE)
    clear hd2 hd3 hA hAE hno hon
    go_wp2_with (first
     | (refine QbG rfl ?_;refine Qaf rfl rfl _ _ _ rfl w5.heap.size _ _ (AvC ⟨AA,.slice A5 AA.pt.da.length c5⟩) (Blk.new w5 _ (AvC av0)) rfl rfl 24 QdZ (Qak _) (Qak av0) (QaP _ _ _ _) ?_;intro w6 hb6 ho6
        have l6:Later w5 w6:=(Qaa w5 _).only ho6 (QCx _))
     | fail)
    have L6:=L5.trans l6
    refine⟨⟨k+1,gs,A2,c2,hlt,?_,rfl,by omega,hgc,L.trans L6,hG.later L6,hid (by rw[hLT.out,hD];exact hgs.out),fun g hg=>Qap (hgo g hg) L6⟩,QpV _ _ hlt⟩
    go_num
   have hD:=hon.out _ (hd2.out hAE)
   subst hAE
   clear hd2 hd3 hA hno hon rv rb ob
   have hgL:gs.length=LS.length:=by rw[←hgs.out,QCt]
   have hga:Hid (∀ j,j<gs.length→(gs.getD j aw0).ar=LS.getD j arr0):=hid (fun j hj=>by
    rw[←hgs.out,QCu,QCu,QCH,QCv hj]
    rfl)
   have hst:=hid (fun q h=>QlH Arr.tk arr0 (l:=LS) (a:=AA) (k:=q) h)
   have hsp:=hid (fun q h=>Qlv Arr.tk arr0 (l:=LS) (a:=AA) (k:=q) h)
   have hs0:insK Arr.tk arr0 LS AA 0=0:=rfl
   have hiL:insL Arr.tk arr0 LS AA=LS.take (insK Arr.tk arr0 LS AA LS.length)++AA :: LS.drop (insK Arr.tk arr0 LS AA LS.length):=rfl
   rw[hiL,←hgL]at hD
   replace hD:=hid hD
   clear hiL hgL
   generalize insK Arr.tk arr0 LS AA=IK at *
   replace hs0:=hid hs0
   go_wp2_with (first
    | (refine QbG rfl ?_;refine Qaf rfl rfl _ _ _ rfl w5.heap.size _ _ (AvC ⟨AA,.slice A5 AA.pt.da.length c5⟩) (Blk.new w5 _ (AvC av0)) rfl rfl 24 QdZ (Qak _) (Qak av0) (QaP _ _ _ _) ?_;intro w6 hb6 ho6
       have l6:Later w5 w6:=(Qaa w5 _).only ho6 (QCx _))
    | fail)
   have L6:=L5.trans l6
   have hG6:=hG.later L6
   have hgo6:∀g∈gs,AwOk w6 w.heap.size g:=fun g hg=>Qap (hgo g hg) L6
   have oA6:AwOk w6 w.heap.size ⟨AA,A5,AA.pt.da.length,c5⟩:=Qap (Qbb own5 (L.trans (l3.trans l4)).size) l6
   have LL:=L.trans L6
   clear hgo hG own5 L5 l3 l4 l5 l6 ho6
   generalize hg9:w5.heap.size=g9 at hb6
   go_loopw [10] (fun v10 wq=>∃q:Nat,v10= .int .i64 q∧q≤gs.length∧Hid (IK gs.length=IK q)∧Later w6 wq) (fun v10 _=>(intOf v10).toNat)
   case atStart=>exact⟨gs.length,rfl,QCx _,hid rfl,Later.refl _⟩
   case round=>
    obtain⟨q,rfl,hq,hIK,Lq⟩:=hrel
    have hbq:=hb6.later Lq
    have t7:=hbq.drew.cellD 7 (u:=.int .i64 AA.tk) rfl
    have lg:=hbq.drew.lt
    rcases q with _|q
    ·have q0:decide ((0:Int)<((0:Nat):Int))=false:=rfl
     go_wp2_with fail
     refine Qad [] [0,1,2,3,4,5,6,7,8,9,10,11,12] [] (by as_aux_lemma=>kernel_rfl) (by as_aux_lemma=>kernel_rfl) (by intro _ _ d _ _ h;cases d<;>exact h) ?_
     simp only[Qai,pick,QCo,QCp,QCq,QCr,QCs]
     repeat (go_big_quiet_step (fail))
     refine wpQuiet_nil ?_
     have hIKq:IK gs.length=0:=hIK.out.trans hs0.out
     have hD':=hD.out
     rw[hIKq]at hD'
     replace hD':=hid hD'
     have W0:Later w6 wr.drew:=Lq.trans (Qab _)
     have hcut1:∀W,(Instr.sliceAt 28 (.slice A2 gs.length c2) none (some (.int .i64 0)) none).run Tryz.prog W= .ok (.slice A2 (0) c2) W:=fun W=>by
      have:=QkS (P:=Tryz.prog) Tryz.underlying28 QdZ A2 gs.length c2 .i64 (0) (QC4 hq hgc) W
      exact this
     have hcut2:∀W,(Instr.sliceAt 28 (.slice A2 gs.length c2) (some (.int .i64 0)) none none).run Tryz.prog W= .ok (.slice (offC A2 (0) c2 24) (gs.length-(0)) (c2-(0))) W:=fun W=>by
      have:=QjK (P:=Tryz.prog) Tryz.underlying28 QdZ A2 gs.length c2 .i64 (0) hq W
      exact this
     have hT1:=QiP hG6 (m:=0) hq
     have hT2:=Qml hG6 (m:=0) (c:=c2) hq hgc
     have J1:=Qaa wr.drew (.cells #[] 39)
     have n1:(wr.drew.alloc (.cells #[] 39)).ownsRow w6.heap.size 39 24 (.slice (some ⟨wr.drew.heap.size,0,none⟩) 0 0) 0 []:=QlW (Blk.new wr.drew 39 []) W0.size
     obtain⟨z1,z2,z3⟩:=Qzd (q:=0) hq hgl hlt hm
     go_wp2_with (first
      | (refine go_a rfl ?_;refine QaW (F:=ArC) (d:=aw0) QaK QeD (by omega) rfl _ _ _ rfl 39 _ 96 Tryz.underlying28 Qg9 rfl w6 _ _ _ n1 (W0.trans J1) A2 (0) c2 (gs.take (0)) (hT1.later (W0.trans J1)) rfl rfl z1 (by omega) ?_;intro A7 c7 w7 own7 J7 _;simp only[QCI,QCs]at own7)
      | (refine go_l rfl ?_;refine Qal ?hw _ _ rfl g9 0 (ArC ⟨AA,A5,AA.pt.da.length,c5⟩) (fun j v hv=>by rw[QCI];exact (hb6.later J7).cellD j hv) rfl _ Tryz.underlying39 rfl (by rw[QaK];exact QdZ) ?_;(case hw=>rfl))
      | (refine go_s rfl ?_;refine Qcj ?hw 28 _ rfl 39 24 _ (ArC ⟨AA,A5,AA.pt.da.length,c5⟩) Tryz.underlying28 Qoy (by omega) (by omega) (QaK _) rfl ?_;(case hw=>rfl))
      | (refine go_a rfl ?_;refine QaW (F:=ArC) (d:=aw0) QaK QeD (by omega) rfl _ _ _ rfl 39 _ 96 Tryz.underlying28 Qg9 rfl w6 _ _ _ (QaC own7 (Qaa _ _)) (J7.trans (Qaa _ _)) (some ⟨w7.heap.size,0,none⟩) 1 1 [⟨AA,A5,AA.pt.da.length,c5⟩] (QeP QaK (show Blk (w7.alloc (.cells (ArC ⟨AA,A5,AA.pt.da.length,c5⟩).toArray 39)) w7.heap.size 39 ([(⟨AA,A5,AA.pt.da.length,c5⟩:Arw)].flatMap ArC) by simp only[QDi,QEu,QC1];exact Blk.new w7 _ _) rfl) rfl rfl z2 (by omega) ?_;intro A8 c8 w8 own8 J8 _)
      | (refine go_a rfl ?_;refine QaW (F:=ArC) (d:=aw0) QaK QeD (by omega) rfl _ _ _ rfl 39 _ 96 Tryz.underlying28 Qg9 rfl w6 _ _ _ own8 J8 (offC A2 (0) c2 24) (gs.length-(0)) (c2-(0)) (gs.drop (0)) (hT2.later J8) rfl rfl z3 (by omega) ?_;intro A9 c9 w9 own9 J9 _)
      | fail)
     have hlen:(gs.take (0)++(⟨AA,A5,AA.pt.da.length,c5⟩:Arw) :: gs.drop (0)).length=(0)+1+(gs.length-(0)):=by
      rw[QCB,QCP,QDj,QCS]
      exact Qsd hq
     have hfm:(gs.take (0)++(⟨AA,A5,AA.pt.da.length,c5⟩:Arw) :: gs.drop (0)).flatMap ArC=(gs.take (0)).flatMap ArC++[(⟨AA,A5,AA.pt.da.length,c5⟩:Arw)].flatMap ArC++(gs.drop (0)).flatMap ArC:=by simp
     obtain⟨_,_,hve,hcap⟩:=Qg6 own9
     have hc9:(0)+1+(gs.length-(0))≤c9:=by cases hve;exact hcap
     have hrd9:=Qc5 (F:=ArC) (d:=aw0) (xs:=gs.take (0)++(⟨AA,A5,AA.pt.da.length,c5⟩:Arw) :: gs.drop (0)) QaK (by rw[hfm];exact own9) hlen
     have hmap:(gs.take (0)++(⟨AA,A5,AA.pt.da.length,c5⟩:Arw) :: gs.drop (0)).map (·.ar)=LT:=by
      rw[hD'.out,QC6,QCR,QDB,QEF,hgs.out]
     have hgo9:∀g∈gs.take (0)++(⟨AA,A5,AA.pt.da.length,c5⟩:Arw) :: gs.drop (0),AwOk w9 w.heap.size g:=fun g hg=>by
      rcases QDc.1 hg with hg|hg
      ·exact Qap (hgo6 g (List.mem_of_mem_take hg)) J9
      ·rcases QCQ.1 hg with rfl|hg
       ·exact Qap oA6 J9
       ·exact Qap (hgo6 g (List.mem_of_mem_drop hg)) J9
     refine⟨⟨k+1,gs.take (0)++(⟨AA,A5,AA.pt.da.length,c5⟩:Arw) :: gs.drop (0),A9,c9,hlt,?_,?_,by rw[hlen];exact QvK hq hgl,by rw[hlen];exact hc9,LL.trans J9,?_,hid (by rw[hLT.out];exact hmap),hgo9⟩,QpV _ _ hlt⟩
     ·go_num
     ·exact QvP (by rw[hlen]<;>omega)
     ·rw[hlen];exact hrd9
    ·have q0:decide ((0:Int)<((q+1:Nat):Int))=true:=decide_eq_true (by omega)
     have q1:((q+1:Nat):Int)-1=(q:Int):=by omega
     have hql:q<gs.length:=by omega
     obtain⟨b2,o2,rfl,hb2,hc2⟩:=(hG6.later (Lq.trans (Qab _))).at_ hql
     have t7':=hc2 7 _ (Qrb _)
     have hgq:=hga.out q hql
     clear hga
     have hqi:(q:Int)<(gs.length:Int):=by omega
     rw[hgq]at t7'
     replace hst:=hid (hst.out q)
     replace hsp:=hid (hsp.out q)
     generalize LS.getD q arr0=z at *
     by_cases hT:AA.tk<z.tk
     ·have fT:decide (AA.tk<z.tk)=true:=decide_eq_true hT
      have hS:=hst.out hT
      go_wp2_with fail
      refine Qad [] [0,1,2,3,4,5,6,7,8,9,10,11,12] [] (by as_aux_lemma=>kernel_rfl) (by as_aux_lemma=>kernel_rfl) (by intro _ _ d _ _ h;cases d<;>exact h) ?_
      simp only[Qai,pick,QCo,QCp,QCq,QCr,QCs]
      repeat (go_big_quiet_step (fail))
      refine wpQuiet_nil ?_
      go_wp2_with fail
      exact⟨⟨q,rfl,by omega,hid (hIK.out.trans hS),Lq.trans (Qab _)⟩,QBX _⟩
     ·have fT:decide (AA.tk<z.tk)=false:=decide_eq_false hT
      have hS:=hsp.out (Int.not_lt.1 hT)
      go_wp2_with fail
      refine Qad [] [0,1,2,3,4,5,6,7,8,9,10,11,12] [] (by as_aux_lemma=>kernel_rfl) (by as_aux_lemma=>kernel_rfl) (by intro _ _ d _ _ h;cases d<;>exact h) ?_
      simp only[Qai,pick,QCo,QCp,QCq,QCr,QCs]
      repeat (go_big_quiet_step (fail))
      refine wpQuiet_nil ?_
      have hIKq:IK gs.length=q+1:=hIK.out.trans hS
      have hD':=hD.out
      rw[hIKq]at hD'
      replace hD':=hid hD'
      have W0:Later w6 wr.drew:=Lq.trans (Qab _)
      have hcut1:∀W,(Instr.sliceAt 28 (.slice (some ⟨b2,o2,none⟩) gs.length c2) none (some (.int .i64 ((q:Int)+1))) none).run Tryz.prog W= .ok (.slice (some ⟨b2,o2,none⟩) (q+1) c2) W:=fun W=>by
       have:=QkS (P:=Tryz.prog) Tryz.underlying28 QdZ (some ⟨b2,o2,none⟩) gs.length c2 .i64 (q+1) (QC4 hq hgc) W
       exact this
      have hcut2:∀W,(Instr.sliceAt 28 (.slice (some ⟨b2,o2,none⟩) gs.length c2) (some (.int .i64 ((q:Int)+1))) none none).run Tryz.prog W= .ok (.slice (offC (some ⟨b2,o2,none⟩) (q+1) c2 24) (gs.length-(q+1)) (c2-(q+1))) W:=fun W=>by
       have:=QjK (P:=Tryz.prog) Tryz.underlying28 QdZ (some ⟨b2,o2,none⟩) gs.length c2 .i64 (q+1) hq W
       exact this
      have hT1:=QiP hG6 (m:=q+1) hq
      have hT2:=Qml hG6 (m:=q+1) (c:=c2) hq hgc
      have J1:=Qaa wr.drew (.cells #[] 39)
      have n1:(wr.drew.alloc (.cells #[] 39)).ownsRow w6.heap.size 39 24 (.slice (some ⟨wr.drew.heap.size,0,none⟩) 0 0) 0 []:=QlW (Blk.new wr.drew 39 []) W0.size
      obtain⟨z1,z2,z3⟩:=Qzd (q:=q+1) hq hgl hlt hm
      generalize hZZ:((q:Int)+1)=ZZ at *
      generalize hAA2:(some ⟨b2,o2,none⟩:Option Addr)=A2 at *
      clear hZZ hAA2 hb2 q1 hqi hc2 t7'
      go_wp2_with (first
       | (refine go_a rfl ?_;refine QaW (F:=ArC) (d:=aw0) QaK QeD (by omega) rfl _ _ _ rfl 39 _ 96 Tryz.underlying28 Qg9 rfl w6 _ _ _ n1 (W0.trans J1) A2 (q+1) c2 (gs.take (q+1)) (hT1.later (W0.trans J1)) rfl rfl z1 (by omega) ?_;intro A7 c7 w7 own7 J7 _;simp only[QCI,QCs]at own7)
       | (refine go_l rfl ?_;refine Qal ?hw _ _ rfl g9 0 (ArC ⟨AA,A5,AA.pt.da.length,c5⟩) (fun j v hv=>by rw[QCI];exact (hb6.later J7).cellD j hv) rfl _ Tryz.underlying39 rfl (by rw[QaK];exact QdZ) ?_;(case hw=>rfl))
       | (refine go_s rfl ?_;refine Qcj ?hw 28 _ rfl 39 24 _ (ArC ⟨AA,A5,AA.pt.da.length,c5⟩) Tryz.underlying28 Qoy (by omega) (by omega) (QaK _) rfl ?_;(case hw=>rfl))
       | (refine go_a rfl ?_;refine QaW (F:=ArC) (d:=aw0) QaK QeD (by omega) rfl _ _ _ rfl 39 _ 96 Tryz.underlying28 Qg9 rfl w6 _ _ _ (QaC own7 (Qaa _ _)) (J7.trans (Qaa _ _)) (some ⟨w7.heap.size,0,none⟩) 1 1 [⟨AA,A5,AA.pt.da.length,c5⟩] (QeP QaK (show Blk (w7.alloc (.cells (ArC ⟨AA,A5,AA.pt.da.length,c5⟩).toArray 39)) w7.heap.size 39 ([(⟨AA,A5,AA.pt.da.length,c5⟩:Arw)].flatMap ArC) by simp only[QDi,QEu,QC1];exact Blk.new w7 _ _) rfl) rfl rfl z2 (by omega) ?_;intro A8 c8 w8 own8 J8 _)
       | (refine go_a rfl ?_;refine QaW (F:=ArC) (d:=aw0) QaK QeD (by omega) rfl _ _ _ rfl 39 _ 96 Tryz.underlying28 Qg9 rfl w6 _ _ _ own8 J8 (offC A2 (q+1) c2 24) (gs.length-(q+1)) (c2-(q+1)) (gs.drop (q+1)) (hT2.later J8) rfl rfl z3 (by omega) ?_;intro A9 c9 w9 own9 J9 _)
       | fail)
      have hlen:(gs.take (q+1)++(⟨AA,A5,AA.pt.da.length,c5⟩:Arw) :: gs.drop (q+1)).length=(q+1)+1+(gs.length-(q+1)):=by
       rw[QCB,QCP,QDj,QCS]
       exact Qsd hq
      have hfm:(gs.take (q+1)++(⟨AA,A5,AA.pt.da.length,c5⟩:Arw) :: gs.drop (q+1)).flatMap ArC=(gs.take (q+1)).flatMap ArC++[(⟨AA,A5,AA.pt.da.length,c5⟩:Arw)].flatMap ArC++(gs.drop (q+1)).flatMap ArC:=by simp
      obtain⟨_,_,hve,hcap⟩:=Qg6 own9
      have hc9:(q+1)+1+(gs.length-(q+1))≤c9:=by cases hve;exact hcap
      have hrd9:=Qc5 (F:=ArC) (d:=aw0) (xs:=gs.take (q+1)++(⟨AA,A5,AA.pt.da.length,c5⟩:Arw) :: gs.drop (q+1)) QaK (by rw[hfm];exact own9) hlen
      have hmap:(gs.take (q+1)++(⟨AA,A5,AA.pt.da.length,c5⟩:Arw) :: gs.drop (q+1)).map (·.ar)=LT:=by
       rw[hD'.out,QC6,QCR,QDB,QEF,hgs.out]
      have hgo9:∀g∈gs.take (q+1)++(⟨AA,A5,AA.pt.da.length,c5⟩:Arw) :: gs.drop (q+1),AwOk w9 w.heap.size g:=fun g hg=>by
       rcases QDc.1 hg with hg|hg
       ·exact Qap (hgo6 g (List.mem_of_mem_take hg)) J9
       ·rcases QCQ.1 hg with rfl|hg
        ·exact Qap oA6 J9
        ·exact Qap (hgo6 g (List.mem_of_mem_drop hg)) J9
      refine⟨⟨k+1,gs.take (q+1)++(⟨AA,A5,AA.pt.da.length,c5⟩:Arw) :: gs.drop (q+1),A9,c9,hlt,?_,?_,by rw[hlen];exact QvK hq hgl,by rw[hlen];exact hc9,LL.trans J9,?_,hid (by rw[hLT.out];exact hmap),hgo9⟩,QpV _ _ hlt⟩
      ·go_num
      ·exact QvP (by rw[hlen]<;>omega)
      ·rw[hlen];exact hrd9
  ·obtain rfl:k=m:=by omega
   go_wp2_with fail
   go_ret
   exact⟨A2,c2,gs,rfl,hG,by rw[hgs.out,QCE (by omega)];rfl,hgo,L⟩
end Go.Proofs.YtdkpcdgckgaklaaGreat
namespace Go.Proofs.YtdkpcdgckgaklaaGreat
open Go.RowKit
end Go.Proofs.YtdkpcdgckgaklaaGreat
namespace Go.Proofs.YtdkpcdgckgaklaaGreat
open Go.RowKit
open Go.BigFrame
theorem Qop (xs:List Nod):∀(k:Nat) (id:UInt64) (tk:Int) (p:List UInt8) (vs:List Vst),p.length=768→(QeK xs k id tk p vs).bd.length≤480
 | 0,_,_,_,_,_=>QEk _
 | k+1,id,tk,p,vs,hp=>by
   rw[QeK]
   split
   ·exact QEk _
   split
   ·exact QEk _
   split
   ·exact QpR _ _ hp
   ·exact Qop xs k _ _ _ _ (Qgj _ _ hp)
theorem QqG (xs:List Nod) (tk:Int) (id:UInt64) (b:List UInt8):(Qa3 xs tk id b).bd.length≤480:=by
 unfold Qa3
 split
 ·exact QEk _
 ·rename_i h
  have h0:Qex tk b xs=0:=Classical.not_not.1 h
  unfold Qex at h0
  split at h0
  ·cases h0
  ·rw[Qmu]at h0
   have h1:=h0 (if b.length=768 then 0 else 2) (by simp)
   split at h1
   ·exact Qop xs 16 id tk b [] (by assumption)
   ·cases h1
theorem Qsl (b:List UInt8):(parP b).da.length≤b.length:=by
 unfold parP
 split
 ·unfold Qdn
  simp only[subB,QCP,QCS]
  omega
 ·simp[prt0]
theorem QrW (vs:List Vst) (b:List UInt8) (tk:Int):(arvA vs b tk).pt.da.length≤b.length:=by
 unfold arvA
 split
 ·simp[arr0,prt0]
 split
 ·simp[prt0]
 ·exact Qsl b
theorem QpM (vs:List Vst) (b:List UInt8) (tk:Int) (h:b.length≤480):(arvA vs b tk).pt.da.length≤480:=QC4 (QrW vs b tk) h
theorem Qqv {xs:List Nod} {es:List Emt}:∀a∈dlvS xs es,a.pt.da.length≤480:=by
 intro a ha
 have hU:∀a∈dlvU xs es,a.pt.da.length≤480:=by
  intro a ha
  obtain⟨e,_,he⟩:=List.mem_flatMap.1 ha
  unfold dlv1 at he
  split at he
  ·obtain rfl:=QDH.1 he
   exact QpM _ _ _ (QqG _ _ _ _)
  ·cases he
 unfold dlvS at ha
 rcases QD6 (dlvU xs es).length with h0|h0
 ·rw[QC0 h0]at ha
  cases ha
 ·exact hU a (Qnj _ (by omega) a ha)
section
variable {P:Program} {ops:Array Oper} {rest:List Oper} {o:Oper} {a:Act} {w:World} {Q:Exit→Act→World→Prop} {α:Type} {F:α→List Value} {sz:Nat} {d:α}
theorem Qis (hF:∀x,(F x).length=sz) (h0:0<sz) (hgd:o.guard=none) (s x:Operand) (t:TypeId) (ho:o.op= .call { callee:=.builtin .append,args:= #[s,x],argTypes:= #[t,t] })
 (e:TypeId) (z:Value) (bytes:Nat) (ht:P.underlying t=some (.slice e)) (hinfo:(P.info? e).map (fun i=>(i.zero,i.size,i.bytes))=some (some z,sz,bytes)) (hzs:z.cells.size=sz) (g:Nat)
 (A:Option Addr) (m c:Nat) (xs:List α) (hr:RdF F sz d w A m xs) (hs:a.eval s= .slice (some ⟨g,0,none⟩) 0 0) (hx:a.eval x= .slice A m c) (hsz:m*bytes≤140737488355328) (hby:0<bytes)
 (h:∀A' c' w',RdF F sz d w' A' m xs→Later w w'→wpList P ops Q rest (a.put o.dst (.slice A' m c')) w'):wpList P ops Q (o :: rest) a w:=by
 obtain⟨i,hi,hz,hsize,hbytes⟩:=info_parts hinfo
 have hm:m≤140737488355328:=QC4 (QD3 _ hby) hsz
 refine wpList_plain hgd fun K hK=>?_
 rcases QD6 m with hm0|hm0
 ·subst hm0
  have hrun:(Builtin.append_ #[t,t] o.type #[.slice (some ⟨g,0,none⟩) 0 0,.slice A 0 c]).run P w= .ok (.slice (some ⟨g,0,none⟩) 0 0) w:=by
   cases A<;>simp[Builtin.append_,run_underlying ht,sizeOf,typeInfo,hi,Builtin.lenOf,Builtin.firstCells,loadCells,loadCellsFrom,storeCells]
  unfold Oper.wp execOp
  simp only[ho,resolve,invoke,builtin,Sem.run_bind,Sem.run_pure,Result.andThen_ok,QCA,QCR,QCC,hs,hx,hrun]
  exact hK _ _ (h _ _ _ ⟨hr.1,fun h=>absurd h (by omega)⟩ (Later.refl w))
 ·obtain⟨b,o2,rfl,_,_⟩:=hr.2 hm0
  have hlen:(xs.flatMap F).length=m*sz:=by rw[QcK hF,hr.1]
  have hrun:=run_append_grow (P:=P) w t o.type e i z ht hi hz ⟨g,0,none⟩ 0 0 [] (by simp) (by simp) ⟨b,o2,none⟩ m c (xs.flatMap F) (by rw[hsize,hlen]) (hr.cells hF h0) (by omega) (by omega) (growslice_fits (by omega) (by rw[hbytes,QCI];exact hsz))
  have hge:=grownCap_ge w (0+m) 0 e
  have hcm:grownCap w (0+m) 0 e≤maxLen:=grownCap_le_maxLen w (0+m) 0 e (by unfold maxLen;omega)
  unfold Oper.wp execOp
  simp only[ho,resolve,invoke,builtin,Sem.run_bind,Sem.run_pure,Result.andThen_ok,QCA,QCR,QCC,hs,hx,hrun]
  generalize grownCap w (0+m) 0 e=cp at *
  rw[QCI]at *
  have hown:(w.drew.alloc (.cells (#[]++(xs.flatMap F).toArray++Builtin.zeroCells z.cells (cp-m)) e)).ownsRow w.heap.size e sz (.slice (some ⟨w.heap.size,0,none⟩) m cp) m (xs.flatMap F):=by
   refine⟨hlen,.inr ⟨w.heap.size,_,_,rfl,QCx _,heap_alloc_new w.drew _,hge,hcm,?_,?_⟩⟩
   ·simp only[Array.size_append,List.size_toArray,size_zeroCells,hzs,hlen]
    rw[Nat.sub_mul,List.length_nil]
    have:=Nat.mul_le_mul_right sz hge
    omega
   ·simp only[Array.toList_append,←hlen]
    rw[QCs,List.take_left]
  exact hK _ _ (h _ _ _ (Qc5 hF hown hr.1) ((Qab w).trans (Qaa w.drew _)))
end
theorem QwL:(Tryz.prog.info? 91).map (fun i=>(i.zero,i.size,i.bytes))=some (some (.agg (NC nod0).toArray),66,88):=by kernel_rfl
theorem QxP:(Tryz.prog.info? 37).map (·.size)=some 24:=by kernel_rfl
theorem Qzk {gs:List Arw} {DS:List Arr} (h:gs.map (·.ar)=DS) {k:Nat} (hk:k<gs.length):(gs.getD k aw0).ar=DS.getD k arr0:=by
 rw[←h,QCu,QCu,QCH,QCv hk]
 rfl
theorem Qik {α:Type} (d:α) {l:List α} {i:Nat} (h:i<l.length):l.getD i d∈l:=by
 rw[QCu,QCv h]
 exact QDn _
set_option maxRecDepth 100000 in
set_option maxHeartbeats 8000000 in
theorem Qhd (A D:Option Addr) (n c m0 e:Nat) (xs:List Nod) (es0:List Emt) (w:World) (hx:RdN w A n xs) (hn:n≤1048576) (hs:∀x∈xs,x.nm.size≤140737488355328) (hes0:RdF EmC 3 emt0 w D m0 es0) (hok0:∀y∈es0,EmOk w y∧y.n≤140737488355328) (hme:m0≤e):
 Calls Tryz.prog 3 #[.slice A n c,.slice D m0 e] w fun x w'=>x= .returned (.bool true)∧Later w w':=by
 obtain⟨m,es,hB,hm6,hes,hok⟩:∃(m:Nat) (es:List Emt),((decide ((6:Int)<(m0:Int))=false∧m=m0)∨(decide ((6:Int)<(m0:Int))=true∧∀W,(Instr.sliceAt 23 (.slice D m0 e) none (some (.int .i64 6)) none).run Tryz.prog W= .ok (.slice D m e) W))∧m≤6∧RdF EmC 3 emt0 w D m es∧∀y∈es,EmOk w y∧y.n≤140737488355328:=by
  by_cases h:m0≤6
  ·exact⟨m0,es0,.inl ⟨decide_eq_false (by omega),rfl⟩,h,hes0,hok0⟩
  ·exact⟨6,es0.take 6,.inr ⟨decide_eq_true (by omega),fun W=>QkS (P:=Tryz.prog) Tryz.underlying23 Qfp D m0 e .i64 6 (by omega) W⟩,by omega,QiP hes0 (by omega),fun y hy=>hok0 y (List.mem_of_mem_take hy)⟩
 clear hes0 hok0
 have hTw:=hid (fun w h1 h2=>QmM D m e es w h1 h2 (by omega))
 have hDe:=hid (fun A2 c2 A3 c3 fs w h1 h2 h3=>Qmw A2 A3 n c2 m c3 xs fs w h1 hn hs h2 h3 (by omega))
 have hRd:=hid (fun w h1 h2 h3=>Qlf A D n c m e xs es w h1 hn hs h2 h3 (by omega))
 have hkey:=hid (fun (fs:List Emt) h1 h2=>Quk (xs:=xs) (es:=fs) (fs:=es) h1 h2)
 have hsm:=hid (Qqv (xs:=xs) (es:=es))
 have hsz:n*88≤140737488355328:=by omega
 rcases hB with ⟨hdec,rfl⟩|⟨hdec,hcut⟩
 all_goals
  go_enter Tryz.func3,Tryz.ntmps3
  go_wp2_with fail
  (with_reducible refine (Qyt _).mono ?_);rintro x w1 ⟨rfl,j1⟩
  go_wp2_with (first
   | (refine go_a rfl ?_;refine Qis (F:=NC) (d:=nod0) QaR (by omega) rfl _ _ _ rfl 91 _ 88 Tryz.underlying22 QwL rfl w1.heap.size A n c xs (hx.later (j1.trans (Qaa _ _))) rfl rfl hsz (by omega) ?_;intro A2 c2 w2 hx2 l2)
   | fail)
  have L2:Later w w2:=(j1.trans (Qaa w1 _)).trans l2
  (refine (hTw.out _ (hes.later L2) (fun y hy=>⟨(hok y hy).1.later L2,(hok y hy).2⟩)).mono ?_);rintro x w3 ⟨A3,c3,fs,rfl,hfs,hfo,l3,hfl,hfk⟩
  have hDS:=hkey.out fs hfl hfk
  go_wp2_with fail
  (refine (hDe.out _ _ _ _ fs _ (hx2.later l3) hfs hfo).mono ?_);rintro x w4 ⟨A4,c4,gs,rfl,hoG,_,hgs,hgo,_,l4⟩
  rw[hDS]at hgs
  have L4:=(L2.trans l3).trans l4
  have hG:=Qc5 (d:=aw0) QaK hoG rfl
  clear hoG hfs hfo hx2 hfk
  go_wp2_with fail
  (refine (hRd.out _ (hx.later L4) (hes.later L4) (fun y hy=>⟨(hok y hy).1.later L4,(hok y hy).2⟩)).mono ?_);rintro x w5 ⟨A5,c5,ks,rfl,hK,hks,hko,l5⟩
  have hkl:ks.length=gs.length:=by
   have h1:=congrArg List.length hks
   have h2:=congrArg List.length hgs
   rw[QCt]at h1 h2
   omega
  have hga:=hid (fun k (hk:k<gs.length)=>Qzk hgs hk)
  have hka:=hid (fun k (hk:k<ks.length)=>Qzk hks hk)
  have hdl:(dlvS xs es).length=gs.length:=by rw[←hgs,QCt]
  have hsm2:=hid (fun k (hk:k<gs.length)=>hsm.out _ (Qik arr0 (l:=dlvS xs es) (i:=k) (by omega)))
  clear hgs hks hDS hkey hdl
  generalize dlvS xs es=DS at *
  have hG5:=hG.later l5
  have hgo5:∀g∈gs,AwOk w5 w3.heap.size g:=fun g hg=>Qap (hgo g hg) l5
  clear hG hgo
  rw[hkl]at hK ⊢
  generalize hN:gs.length=N at *
  go_wp2_with fail
  go_loopw [31] (fun i wr=>∃k:Nat,k≤N∧i= .int .i64 k∧Later w5 wr) (fun i _=>N-(intOf i).toNat)
  case atStart=>exact⟨0,QEk _,rfl,Later.refl _⟩
  case round=>
   obtain⟨k,hk,rfl,L⟩:=hrel
   by_cases hlt:k<N
   ·have LD:=L.trans (Qab _)
    obtain⟨b4,o4,rfl,hb4,hc4⟩:=(hG5.later LD).at_ hlt
    obtain⟨b5,o5,rfl,hb5,hc5⟩:=(hK.later LD).at_ hlt
    have e1:=hga.out k hlt
    have e2:=hka.out k (by omega)
    have e3:=hsm2.out k hlt
    have q1:=Qap (hgo5 _ (Qik aw0 (l:=gs) (i:=k) (by omega))) LD
    have q2:=Qap (hko _ (Qik aw0 (l:=ks) (i:=k) (by omega))) LD
    generalize DS.getD k arr0=a at *
    generalize gs.getD k aw0=g at *
    generalize ks.getD k aw0=h at *
    obtain⟨gar,gva,gvn,gvc⟩:=g
    obtain⟨har,hva,hvn,hvc⟩:=h
    simp only at e1 e2 q1 q2
    subst e1
    subst e2
    obtain rfl:gvn=har.pt.da.length:=by have:=(OwnB.rd q1).len;omega
    obtain rfl:hvn=har.pt.da.length:=by have:=(OwnB.rd q2).len;omega
    have hlI:(k:Int)<(N:Int):=by omega
    go_wp2_with fail
    refine Qad [([0,1,2,3,4,5,6,7],8)] [9] [] (by as_aux_lemma=>kernel_rfl) (by as_aux_lemma=>kernel_rfl) (by intro _ _ d _ _ h;cases d<;>exact h) ?_
    simp only[Qai,pick,QCo,QCp,QCq,QCr,QCs]
    repeat (first|go_big_quiet_skip|(go_big_quiet_want;(first|refine QaN 37 _ rfl b4 (o4+k*24) (ArC ⟨har,gva,har.pt.da.length,gvc⟩) (fun w' hw j v hv=>by obtain⟨y,rfl⟩:=hw;exact ((Later.below ⟨y,rfl⟩).cell (p:=⟨b4,o4+k*24+j,none⟩) hb4).trans (hc4 j v hv)) rfl _ Tryz.underlying37 rfl (by rw[QaK];exact QxP) ?_|refine QaN 39 _ rfl b5 (o5+k*24) (ArC ⟨har,hva,har.pt.da.length,hvc⟩) (fun w' hw j v hv=>by obtain⟨y,rfl⟩:=hw;exact ((Later.below ⟨y,rfl⟩).cell (p:=⟨b5,o5+k*24+j,none⟩) hb5).trans (hc5 j v hv)) rfl _ Tryz.underlying39 rfl (by rw[QaK];exact Qbl) ?_);simp only[Act.put,QCw,QCz,QCy];go_big_quiet_on)|(go_big_quiet_step (fail)))
    refine wpQuiet_nil ?_
    go_wp2_with fail
    (refine (Qya har gva hva har.pt.da.length gvc hvc _ (OwnB.rd q1) (OwnB.rd q2) (by omega)).mono ?_);rintro x w6 ⟨rfl,j6⟩
    go_wp2_with fail
    try refine⟨by first|assumption|exact Qab _|exact Qaa _ _|exact Later.refl _,?_⟩
    try simp only[Qai,pick,QCo,QCp,QCq,QCr,QCs]
    repeat (go_big_quiet_step (fail))
    refine wpQuiet_nil ?_
    go_wp2_with fail
    exact⟨⟨k+1,hlt,by go_num,LD.trans j6⟩,QpV _ _ hlt⟩
   ·obtain rfl:k=N:=by omega
    go_wp2_with fail
    go_ret
    exact⟨rfl,(L4.trans l5).trans L⟩
end Go.Proofs.YtdkpcdgckgaklaaGreat
namespace Go.Proofs.YtdkpcdgckgaklaaGreat
open Go.ChangeShapes Go.WideShapes Go.ChangeAt Go.RowKit
open _root_.Go.Proofs.YtdkpcdgckgaklaaGreat.Rows (uptoBulk uptoBulkAll uptoSmall)
section
variable {H:Type} {enc:TypeId×Value→H} {P:Program} {w:World} {base b0:Nat} {sp:Nat→Bool} {held:Bool} {r:Reach}
end
theorem Qow {α β:Type} (f:α→Option β):∀(l:List α) (ys:List β),l.mapM f=some ys→ys.length=l.length∧∀(i:Nat) x,l[i]?=some x→f x=ys[i]?
 | [],ys,h=>by
   simp only[List.mapM_nil,pure,Option.some.injEq]at h
   subst h
   exact⟨rfl,fun i x hx=>by simp at hx⟩
 | a :: l,ys,h=>by
   rw[List.mapM_cons]at h
   simp only[bind,Option.bind_eq_some_iff,pure,Option.some.injEq]at h
   obtain⟨y,hy,ys',h',rfl⟩:=h
   obtain⟨h1,h2⟩:=Qow f l ys' h'
   refine⟨by simp[h1],fun i x hx=>?_⟩
   cases i with
   | zero=>
     obtain rfl:a=x:=by simpa using hx
     simpa using hy
   | succ i=>simpa using h2 i x (by simpa using hx)
theorem Qjm {w:World} {base k:Nat} {a:Addr} {cs:List Value} (h:w.cells? base a k=some cs):cs.length=k∧∀i,i<k→w.cell? (a.add i)=cs[i]?:=by
 unfold World.cells? at h
 split at h
 ·obtain⟨h1,h2⟩:=Qow _ _ _ h
  exact⟨by simpa using h1,fun i hi=>h2 i i (by rw[QEc hi])⟩
 ·cases h
theorem QgX {l:List Value} {i:Nat} {v:Value} (h:(l.drop i).take 1=[v]):l[i]?=some v:=by
 have:=congrArg (·[0]?) h
 simpa [QDt,QDU] using this
section
variable {H:Type} {enc:TypeId×Value→H} {w:World} {base:Nat} {sp:Nat→Bool} {held:Bool}
theorem Qog {fuel:Nat} {cs:List Value} {x:DataW H×List MemPlace} (h:DataW.trod enc Tryz.prog w base sp held fuel 79 cs=some x):∃K:Y32,cs=K.val.map W8:=by
 obtain⟨xs,m,rfl,rfl,hl,hxl,he⟩:=DataW.trod_array Tryz.underlying79 h
 have hn:Tryz.prog.cellsOf 79=32:=by kernel_rfl
 have h1:Tryz.prog.cellsOf 5=1:=by kernel_rfl
 rw[hn]at hl
 rw[h1]at he
 have each:∀i,∃b:UInt8,i<32→cs[i]?=some (W8 b):=by
  intro i
  by_cases hi:i<32
  ·have:=he i hi
   rw[QCv (by omega),QEi]at this
   obtain⟨z,hz,_,hw⟩:=DataW.trod_int Tryz.underlying5 this
   have hr:0≤z∧z≤255:=by simpa [Lit.wf,IntKind.min,IntKind.max,IntKind.signed,IntKind.bits] using hw
   exact⟨_,fun _=>by rw[QgX hz,QbY z hr.1 (by omega)]⟩
  ·exact⟨0,fun h=>absurd h hi⟩
 obtain⟨f,hf⟩:=Classical.axiomOfChoice each
 refine⟨⟨(QC5 32).map f,by simp⟩,?_⟩
 apply List.ext_getElem?
 intro i
 rcases QDq i 32 with hi|hi
 ·rw[hf i hi,QCH,QCH,QEc hi]
  rfl
 ·rw[QDr (by omega),QDr (by simp;omega)]
set_option maxRecDepth 100000 in
theorem Qvv {fuel:Nat} {cs:List Value} {x:DataW H×List MemPlace} (h:DataW.trod enc Tryz.prog w base sp held fuel 91 cs=some x):∃y:Nod,cs=NC y∧y.nm.size≤uptoBulk x.1:=by
 obtain⟨xs,m,rfl,rfl,hl,hxl,he⟩:=DataW.trod_struct Tryz.underlying91 h
 have hn:Tryz.prog.cellsOf 91=66:=by kernel_rfl
 have hS:Tryz.prog.cellsOf 9=1:=by kernel_rfl
 have hU:Tryz.prog.cellsOf 31=1:=by kernel_rfl
 have hB:Tryz.prog.cellsOf 79=32:=by kernel_rfl
 rw[hn]at hl
 have hxl4:xs.length=4:=hxl
 have e0:DataW.trod enc Tryz.prog w base sp held m 9 ((cs.drop 0).take (Tryz.prog.cellsOf 9))=xs[0]?:=he 0 _ rfl
 have e1:DataW.trod enc Tryz.prog w base sp held m 31 ((cs.drop 1).take (Tryz.prog.cellsOf 31))=xs[1]?:=he 1 _ rfl
 have e2:DataW.trod enc Tryz.prog w base sp held m 79 ((cs.drop 2).take (Tryz.prog.cellsOf 79))=xs[2]?:=he 2 _ rfl
 have e3:DataW.trod enc Tryz.prog w base sp held m 79 ((cs.drop 34).take (Tryz.prog.cellsOf 79))=xs[3]?:=he 3 _ rfl
 rw[hS,QCv (by omega)]at e0
 rw[hU,QCv (by omega)]at e1
 rw[hB,QCv (by omega)]at e2 e3
 obtain⟨s,hs,hx0,_⟩:=DataW.trod_string Tryz.underlying9 e0
 obtain⟨z,hz,_,hw⟩:=DataW.trod_int Tryz.underlying31 e1
 obtain⟨K,hK⟩:=Qog e2
 obtain⟨P,hP⟩:=Qog e3
 have hr:0≤z∧z≤18446744073709551615:=by simpa [Lit.wf,IntKind.min,IntKind.max,IntKind.signed,IntKind.bits] using hw
 have c0:=QgX hs
 have c1:=QgX hz
 rw[Qbc z hr.1 (by omega)]at c1
 refine⟨⟨s,QCN z.toNat,K,P⟩,?_,?_⟩
 ·match cs,hl,c0,c1,hK,hP with
  | a :: b :: r,hl,c0,c1,hK,hP=>
    have hrl:r.length=64:=by simpa using hl
    rw[QD0,QD0,List.drop_zero]at hK
    rw[show (34:Nat)=32+1+1 from rfl,QD0,QD0,QCE (by simp;omega)]at hP
    obtain rfl:a= .string s:=by simpa using c0
    obtain rfl:b=W64 (QCN z.toNat):=by simpa using c1
    rw[NC,←hK,←hP,QC3]
 ·have hb:xs[0].1= .lit (.string s.data.toList):=by rw[hx0]
  have:=QhJ (d:=xs[0].1) (l:=xs.map (·.1)) (QC7.2 ⟨_,QDn _,rfl⟩)
  rw[hb]at this
  simp only[uptoBulk]at this ⊢
  have hsz:s.data.toList.length=s.size:=by simp
  show s.size≤_
  omega
theorem QsF {fuel:Nat} {v:Value} {x:DataW H×List MemPlace} (h:DataW.trod enc Tryz.prog w base sp held fuel 22 [v]=some x):
 ∃A n c xs,v= .slice A n c∧n≤c∧RdN w A n xs∧n+1≤uptoBulk x.1∧∀y∈xs,y.nm.size≤uptoBulk x.1:=by
 rcases DataW.trod_slice Tryz.underlying22 h with ⟨hcs,rfl⟩|⟨a,len,cap,elems,rest,n,rfl,hcs,rfl,hb,hl,hm,hlen,hel,hsp,hns⟩
 ·obtain rfl:v= .slice none 0 0:=by simpa using hcs
  exact⟨none,0,0,[],rfl,QCx _,QdD w,by simp[uptoBulk],by simp⟩
 ·obtain rfl:v= .slice (some a) len cap:=by simpa using hcs
  have hc:Tryz.prog.cellsOf 91=66:=by kernel_rfl
  have each:∀i,∃y:Nod,i<len→(w.cells? base (a.add (i*66)) 66=some (NC y)∧y.nm.size≤uptoBulkAll (elems.map (·.1))):=by
   intro i
   by_cases hi:i<len
   ·have hE:=hel i hi
    rw[hc]at hE
    have hy:elems[i]?=some (elems[i]'(by omega)):=QCv _
    rw[hy,Option.bind_eq_some_iff]at hE
    obtain⟨c1,hc1,hy1⟩:=hE
    obtain⟨y,rfl,hsz⟩:=Qvv hy1
    exact⟨y,fun _=>⟨hc1,QC4 hsz (QhJ (QC7.2 ⟨_,QDn _,rfl⟩))⟩⟩
   ·exact⟨nod0,fun h=>absurd h hi⟩
  obtain⟨f,hf⟩:=Classical.axiomOfChoice each
  have hfl:∀j,j<len→((QC5 len).map f).getD j nod0=f j:=by
   intro j hj
   rw[QCu,QCH,QEc hj]
   rfl
  have e2:=Qkh (elems.map (·.1))
  rw[QCt,hlen]at e2
  refine⟨some a,len,cap,(QC5 len).map f,rfl,hl,⟨by simp,fun h0=>?_⟩,?_,fun y hy=>?_⟩
  ·have e0:a.add (0*66)=a:=by simp[Addr.add]
   have h00:=(Qjm (hf 0 h0).1).2 0 (by omega)
   rw[e0]at h00
   have e1:a.add 0=a:=by simp[Addr.add]
   rw[e1,NC,QCp]at h00
   obtain⟨h1,h2⟩:=QhX h00
   obtain⟨b,o,s⟩:=a
   simp only at h1
   subst h1
   refine⟨b,o,rfl,h2,fun j i v hj hv=>?_⟩
   rw[hfl j hj]at hv
   have hi:i<66:=by
    have:=(QCK.1 hv).1
    rwa [QaR]at this
   have:=(Qjm (hf j hj).1).2 i hi
   rw[Qdl,Qdl]at this
   rw[this]
   exact hv
  ·simp only[uptoBulk]
   omega
  ·obtain⟨j,hj,rfl⟩:=QC7.1 hy
   have:=(hf j (QDC.1 hj)).2
   simp only[uptoBulk]
   omega
set_option maxRecDepth 100000 in
theorem QrT {b0:Nat} {r:Reach} {v:Value} {d:DataW H} {ps:List MemPlace} (ht:Tryz.prog.underlying 22=some (.slice 91)) (hval:Value.okWide Tryz.prog w r b0 22 v) (h:DataW.Trod enc Tryz.prog w base sp held 22 v d ps):
 ∃A n c xs,v= .slice A n c∧n≤c∧RdN w A n xs∧n+1≤uptoBulk d∧∀y∈xs,y.nm.size≤uptoBulk d:=by
 obtain⟨A,n,c,rfl⟩:=okWide_slice ht hval
 obtain⟨f,hf⟩:=h
 obtain⟨A',n',c',ns,h1,h2,h3,h4,h5⟩:=QsF hf
 exact⟨A',n',c',ns,h1,h2,h3,h4,h5⟩
end
end Go.Proofs.YtdkpcdgckgaklaaGreat
