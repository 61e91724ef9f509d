/-
  Lemmas for the last text of this claim (part 1 of 20).
-/
import Derived.ArgAppend
import Derived.BigQuiet
import Derived.BigRegion
import Derived.ChangeOld
import Derived.Deep.RegionWith
import Derived.DeepKeys4
import Derived.JoinedCond
import Derived.LaidMore
import Derived.Laws.Append
import Derived.Laws.BytesArg
import Derived.Laws.CopyOwn
import Derived.Laws.Externs
import Derived.Laws.IdiomStrings
import Derived.Laws.Tables
import Derived.Lib.AppendStr
import Derived.Lib.AppendZerosOnto
import Derived.Lib.Mul64
import Derived.Lib.SlBytesConst
import Derived.LoopN
import Derived.Maps.OwnSet
import Derived.OpenShut
import Derived.OrdersHeld
import Derived.ProofKit
import Derived.Shelf.Spec.BitsCarry
import Derived.ShutString
import Derived.Test.YticcbmhcgmhohaaGreatProg
import Derived.Test.YticcbmhcgmhohaaGreatRows
import Derived.WalkKit
import Derived.WalkLawsBesides
import Derived.WalkSpells
open Array renaming getElem?_eq_none → QEb, replicate → QEe
open BitVec renaming toNat_ushiftRight → QDz, ofInt → QDY, toNat_shiftLeft → QEC
open Bool renaming and_eq_true → QC2, eq_iff_iff → QDw, not_eq_true' → QEh, or_eq_true → QEH
open Int renaming natCast_mul → QEp
open List renaming getElem?_eq_getElem → QCJ, mem_cons → QCZ, append_nil → QDf, all_eq_true → QDn, range → QDu, all_cons → QDZ, mem_range → QEo, singleton_append → QEt
open Nat renaming lt_of_lt_of_le → QCX, shiftRight_eq_div_pow → QDv, div_eq_of_lt → QDy, pow_le_pow_right → QDH, lt_or_ge → QDJ, min_eq_left → QDK, pow_add → QD2, shiftLeft_eq → QEM, mul_left_comm → QEP
open Option renaming toList_some → QCG, map_some → QEd, getD_some → QEL
open UInt32 renaming ofNat → QDg, ofInt → QEl, toNat_ofNat' → QEE, toNat_inj → QE2
open UInt64 renaming ofNat → QC7, toNat_ofNat' → QDb, ofInt → QDC, toNat_inj → QEz, toNat_toUInt8 → QEN
open UInt8 renaming ofNat → QDe, ofInt → QDh, toNat_inj → QDr, toNat_ofNat' → QDB, lt_iff_toNat_lt → QEu
set_option linter.all false
namespace Go.Proofs.YticcbmhcgmhohaaGreat
open Go.RowKit
theorem hid {p:Prop} (h:p):Hid p:=h
structure More where
 blocks:Array Obj
 drawn:Nat
instance:Nonempty More:=⟨⟨#[],0⟩⟩
def grow (w:World) (x:More):World:={ w with heap:=w.heap++x.blocks,drawn:=x.drawn }
def QoF (w:World) (x:More) (a:Addr):Option Value:=if a.block<w.heap.size then none else (grow w x).cell? a
theorem QjG (w:World) (x:More) (k:Nat) (h:k<w.heap.size):(grow w x).heap[k]?=w.heap[k]?:=by
 show (w.heap++x.blocks)[k]?=_
 rw[Array.getElem?_append_left h]
@[go_sem] theorem Qyz (w:World) (x:More) (a:Addr):(grow w x).cell? a=(w.cell? a).or (QoF w x a):=by
  unfold QoF
  by_cases h:a.block<w.heap.size
  ·rw[if_pos h,Option.or_none]
   exact World.cell?_of_block (QjG w x _ h)
  ·rw[if_neg h]
   have:w.cell? a=none:=by
    unfold World.cell?
    rw[QEb (by omega)]
   rw[this,Option.none_or]
def Later (w:World):World→Prop:=fun w'=>∃x,w'=grow w x
theorem Later.refl (w:World):Later w w:=⟨⟨#[],w.drawn⟩,by simp[grow]⟩
theorem Later.of_below {w w':World} (h:Below w.heap.size w w'):Later w w':=by
 refine⟨⟨w'.heap.extract w.heap.size w'.heap.size,w'.drawn⟩,?_⟩
 have hh:w'.heap=w.heap++w'.heap.extract w.heap.size w'.heap.size:=by
  apply Array.ext_getElem?
  intro i
  rcases QDJ i w.heap.size with hi|hi
  ·rw[Array.getElem?_append_left hi,h.block i hi]
  ·rw[Array.getElem?_append_right hi]
   have hs:=h.size
   rcases QDJ i w'.heap.size with h2|h2
   ·have e1:i-w.heap.size<(w'.heap.extract w.heap.size w'.heap.size).size:=by simp;omega
    rw[Array.getElem?_eq_getElem h2,Array.getElem?_eq_getElem e1,Array.getElem_extract]
    congr 2
    omega
   ·rw[QEb h2,QEb (by simp;omega)]
 cases w'
 cases w
 have h1:=h.os
 have h2:=h.tape
 have h3:=h.output
 simp only at h1 h2 h3 hh
 simp only[grow,h1,h2,h3]
 congr 1
theorem Later.below {w w':World} (h:Later w w'):Below w.heap.size w w':=by
 obtain⟨x,rfl⟩:=h
 exact⟨rfl,rfl,rfl,by show w.heap.size≤(w.heap++x.blocks).size;simp,fun k hk=>QjG w x k hk⟩
theorem Later.trans {a b c:World} (h:Later a b) (k:Later b c):Later a c:=by
 have h':=h.below
 have k':=k.below
 exact .of_below (h'.trans (k'.mono h'.size))
theorem Later.drew {a b:World} (h:Later a b):Later a b.drew:=h.trans (.of_below (Below.refl _ _).drew)
def calm (o:Oper):Bool:=match o.op with
 | .move _| .assign _| .pick .. | .nilCheck _| .binOp .. | .unOp .. | .convert .. | .fieldAddr .. | .field .. | .indexAddr .. | .index .. | .extract .. | .slice .. | .load .. | .build .. | .makeInterface .. | .typeAssert .. | .lookup .. =>true
 | .call { callee:=.builtin .len,.. }| .call { callee:=.builtin .cap,.. }| .call { callee:=.builtin .min,.. }| .call { callee:=.builtin .max,.. }=>true
 | _=>false
theorem QcQ {e:Result Value} {n:Next} {w:World} (h:e.andThen (fun a w'=>Result.ok (Next.value a) w')= .ok n w):∃u,n= .value u:=by
 cases e with
 | ok a w'=>simp[Result.andThen]at h;exact⟨a,h.1.symm⟩
 | halt x w'=>simp[Result.andThen]at h
theorem Qfn {P:Program} {o:Oper} {ρ:Operand→Value} {w w':World} {n:Next} (h:calm o=true) (hr:(execOp ρ o).run P w= .ok n w'):∃u,n= .value u:=by
 obtain⟨dst,op,type,pos,after,guard⟩:=o
 cases op
 case call c=>
  obtain⟨callee,args,argTypes⟩:=c
  cases callee
  case builtin b=>
   cases b
   case len=>simp only[execOp,resolve,Sem.run_bind,Sem.run_pure,Result.andThen_ok,invoke,builtin]at hr;exact QcQ hr
   case cap=>simp only[execOp,resolve,Sem.run_bind,Sem.run_pure,Result.andThen_ok,invoke,builtin]at hr;exact QcQ hr
   case min=>simp only[execOp,resolve,Sem.run_bind,Sem.run_pure,Result.andThen_ok,invoke,builtin]at hr;exact QcQ hr
   case max=>simp only[execOp,resolve,Sem.run_bind,Sem.run_pure,Result.andThen_ok,invoke,builtin]at hr;exact QcQ hr
   all_goals (simp only[calm]at h;cases h)
  all_goals (simp only[calm]at h;cases h)
 case nilCheck x=>
  simp only[execOp]at hr
  generalize ρ x=r at hr
  cases r
  case func fn first captured=>
   cases fn
   case method name=>
    simp only[]at hr
    cases hf:first[0]? with
    | none=>rw[hf]at hr;simp only[Sem.run_pure]at hr;cases hr;exact⟨_,rfl⟩
    | some q=>
      rw[hf]at hr
      cases q
      case iface t u=>
       simp only[Sem.run_bind]at hr
       revert hr
       generalize Sem.run P program w=r1
       cases r1 with
       | halt x w1=>simp[Result.andThen]
       | ok p w1=>
         simp only[Result.andThen_ok]
         generalize Sem.run P (nilAhead (p.types.size+Made.depth) t u name) w1=r2
         cases r2 with
         | halt x w2=>simp[Result.andThen]
         | ok b w2=>
           simp only[Result.andThen_ok]
           by_cases hb:(b != some false)=true
           ·rw[if_pos hb]
            simp[unsupported]
           ·rw[if_neg hb]
            simp only[Sem.run_pure]
            intro hr
            cases hr
            exact⟨_,rfl⟩
      case nilIface=>simp[runtimePanic]at hr
      all_goals (simp only[Sem.run_pure]at hr;cases hr;exact⟨_,rfl⟩)
   all_goals (simp only[Sem.run_pure]at hr;cases hr;exact⟨_,rfl⟩)
  case pointer a=>
   cases a
   case none=>simp[runtimePanic]at hr
   case some a=>simp only[Sem.run_pure]at hr;cases hr;exact⟨_,rfl⟩
  case nilIface=>simp[runtimePanic]at hr
  case nilFunc=>simp[runtimePanic]at hr
  all_goals (simp only[Sem.run_pure]at hr;cases hr;exact⟨_,rfl⟩)
 case move x=>simp only[execOp,Sem.run_pure]at hr;cases hr;exact⟨_,rfl⟩
 case assign x=>simp only[execOp,Sem.run_pure]at hr;cases hr;exact⟨_,rfl⟩
 case pick c a b=>
  simp only[execOp,Sem.run_bind,Sem.run_pure]at hr
  revert hr
  generalize Sem.run P (asBool (ρ c)) w=r
  cases r with
  | halt x w1=>simp[Result.andThen]
  | ok b w1=>simp only[Result.andThen_ok];intro hr;cases hr;exact⟨_,rfl⟩
 all_goals first
  | (simp only[calm]at h;cases h;done)
  | (simp only[execOp,Sem.run_bind,Sem.run_pure]at hr;exact QcQ hr)
section
variable {P:Program} {ops:Array Oper} {Q:Exit→Act→World→Prop} {w0:World}
theorem QcV {o:Oper} {a:Act} {K:Act→Prop} (hc:calm o=true) (hw:Region.wanted o (yielded ops a.tmps)=true) (h:o.quiet P a (Later w0) K):
 ∃v,YieldsIf P ops (Later w0) o v a∧K (a.put o.dst v):=by
 obtain⟨v,h1,h2⟩:=h
 refine⟨v,.inl ⟨hw,fun w hl=>?_⟩,h2⟩
 have h3:=h1 w hl
 unfold Oper.quietAt at h3
 cases hr:(execOp a.eval o).run P w with
 | halt x w'=>rw[hr]at h3;exact absurd h3 (by simp[Oper.quietUpon])
 | ok n w'=>
   obtain⟨u,rfl⟩:=Qfn hc hr
   rw[hr]at h3
   obtain⟨rfl,rfl⟩:=h3
   rfl
def Qdl (P:Program) (ops:Array Oper) (Q:Exit→Act→World→Prop) (tl:Nat→Bool):Nat→Array Bool→Act→World→Prop
 | 0,listed,a,w=>Region.ready .any ops listed=[]∧Q .normal a w
 | fuel+1,listed,a,w=>
   (Region.ready .any ops listed=[]→Q .normal a w)∧
   ∀i∈Region.ready .any ops listed,wpOp P ops Q i (fun a' w'=>(tl i=false→Later w w')∧Qdl P ops Q tl fuel (listed.setIfInBounds i true) a' w') a w
theorem Qfm {tl:Nat→Bool}:∀(fuel:Nat) (listed:Array Bool) (a:Act) (w:World),Qdl P ops Q tl fuel listed a w→wpAny P .any ops Q fuel listed a w
 | 0,_,_,_,h=>h
 | fuel+1,_,_,_,h=>⟨h.1,fun i hi=>wpOp_mono (fun a' w' h'=>Qfm fuel _ a' w' h'.2) (h.2 i hi)⟩
def Closed (ops:Array Oper) (listed:Array Bool):Prop:=
 listed.size=ops.size∧∀j oj,ops[j]?=some oj→listed.getD j false=true→∀e∈oj.after,Region.binds .any e=true→listed.getD e.on false=true
theorem QbI {listed:Array Bool} {i:Nat} (h:listed.getD i true=false):listed.getD i false=false:=by
 rcases QDJ i listed.size with h'|h'
 ·simp[h']at h ⊢;exact h
 ·simp[QEb h']at h
theorem Qg7 {listed:Array Bool} {i:Nat} (hi:i<listed.size) (h:listed.getD i false=false):listed.getD i true=false:=by
 simp[hi]at h ⊢;exact h
theorem Closed.set {listed:Array Bool} {i:Nat} (hc:Closed ops listed) (hi:i∈Region.ready .any ops listed):Closed ops (listed.setIfInBounds i true):=by
 obtain⟨_,oi,hoi,hall⟩:=mem_ready.1 hi
 refine⟨by simp[hc.1],fun j oj hj hl e he hb=>?_⟩
 by_cases hij:i=j
 ·subst hij
  have:oj=oi:=Option.some.inj (hj.symm.trans hoi)
  subst this
  exact getD_set_true (hall e he hb)
 ·rw[getD_set_ne false hij]at hl
  exact getD_set_true (hc.2 j oj hj hl e he hb)
def Qho (ops:Array Oper) (j i:Nat):Bool:=
 match ops[j]? with
 | some oj=>oj.after.any fun e=>Region.binds .any e&&e.on==i
 | none=>false
theorem Qfu {i j:Nat} (h:Qho ops j i=true):∃oj,ops[j]?=some oj∧∃e∈oj.after,Region.binds .any e=true∧e.on=i:=by
 unfold Qho at h
 split at h
 ·rename_i oj hj
  obtain⟨e,he,hb⟩:=Array.any_eq_true'.1 h
  simp only[QC2,beq_iff_eq]at hb
  exact⟨oj,hj,e,he,hb.1,hb.2⟩
 ·cases h
def bare (o:Oper):Bool:=match o.op with
 | .move _| .assign _| .extract .. =>true
 | _=>false
def QgR (ops:Array Oper) (ts:List Nat) (i:Nat):Bool:=((ops[i]?).map bare).getD false&& !((QDu ops.size).any fun j=>Qho ops j i&& !(ts.tail.contains j))
def Qi0 (ops:Array Oper) (ts:List Nat):Bool:=
 match ts with
 | []=>true
 | t :: r=>
   ((QDu ops.size).all fun i=>ts.contains i||QgR ops (t :: r) i||(QDu ops.size).any fun j=>(j==t||(!ts.contains j&& !QgR ops (t :: r) j&&decide (i<j)))&&Qho ops j i) &&
   (List.zip (t :: r) r).all fun (p,q)=>Qho ops q p
theorem QiX {t:Nat} {r:List Nat} (hB:Qi0 ops (t :: r)=true) {listed:Array Bool} (hc:Closed ops listed):
 ∀(d i:Nat),ops.size-i=d→i<ops.size→(t :: r).contains i=false→QgR ops (t :: r) i=false→listed.getD i true=false→listed.getD t false=false∧t∉Region.ready .any ops listed:=by
 intro d
 induction d using Nat.strongRecOn with
 | _ d ih=>
   intro i hd hi hti hex hun
   simp only[Qi0,QC2]at hB
   have h1:=QDn.1 hB.1 i (QEo.2 hi)
   rw[hti,hex,Bool.false_or,Bool.false_or]at h1
   obtain⟨j,hj,hj2⟩:=List.any_eq_true.1 h1
   simp only[QC2,QEH,beq_iff_eq,decide_eq_true_eq,QEh]at hj2
   obtain⟨hjt,hw⟩:=hj2
   obtain⟨oj,hoj,e,he,hb,hon⟩:=Qfu hw
   have hjl:listed.getD j false=false:=by
    cases hl:listed.getD j false with
    | false=>rfl
    | true=>
      have h2:=hc.2 j oj hoj hl e he hb
      rw[hon,QbI hun]at h2
      cases h2
   rcases hjt with hjt|⟨⟨hjt,hje⟩,hij⟩
   ·subst hjt
    refine⟨hjl,fun hr=>?_⟩
    obtain⟨_,o',ho',hall⟩:=mem_ready.1 hr
    have:o'=oj:=Option.some.inj (ho'.symm.trans hoj)
    subst this
    have h2:=hall e he hb
    rw[hon,QbI hun]at h2
    cases h2
   ·have hjs:j<ops.size:=QEo.1 hj
    exact ih (ops.size-j) (by omega) j rfl hjs hjt hje (Qg7 (by rw[hc.1];exact hjs) hjl)
theorem QdD {listed:Array Bool} (hc:Closed ops listed):∀(r:List Nat) (t:Nat),(List.zip (t :: r) r).all (fun (p,q)=>Qho ops q p)=true→
 listed.getD t false=false→t∉Region.ready .any ops listed→∀k∈t :: r,k∉Region.ready .any ops listed
 | [],t,_,_,hr,k,hk=>by
   have:k=t:=by simpa using hk
   subst this
   exact hr
 | u :: r,t,hz,hl,hr,k,hk=>by
   simp only[List.zip_cons_cons,QDZ,QC2]at hz
   rcases QCZ.1 hk with rfl|hk
   ·exact hr
   obtain⟨ou,hou,e,he,hb,hon⟩:=Qfu hz.1
   refine QdD hc r u hz.2 ?_ ?_ k hk
   ·cases hlu:listed.getD u false with
    | false=>rfl
    | true=>
      have h2:=hc.2 u ou hou hlu e he hb
      rw[hon,hl]at h2
      cases h2
   ·intro hru
    obtain⟨_,o',ho',hall⟩:=mem_ready.1 hru
    have:o'=ou:=Option.some.inj (ho'.symm.trans hou)
    subst this
    have h2:=hall e he hb
    rw[hon,hl]at h2
    cases h2
theorem Qud {o:Oper} {ρ:Operand→Value} {w w':World} {v:Value} (h:bare o=true) (hr:(execOp ρ o).run P w= .ok (.value v) w):(execOp ρ o).run P w'= .ok (.value v) w':=by
 obtain⟨dst,op,type,pos,after,guard⟩:=o
 cases op
 case move x=>simp only[execOp,Sem.run_pure]at hr ⊢;cases hr;rfl
 case assign x=>simp only[execOp,Sem.run_pure]at hr ⊢;cases hr;rfl
 case extract t i=>
  simp only[execOp,Sem.run_bind]at hr ⊢
  unfold Instr.extract at hr ⊢
  split at hr
  ·split at hr
   ·simp only[Sem.run_pure,Result.andThen_ok]at hr ⊢;cases hr;rfl
   ·simp[stuck]at hr
  ·simp[stuck]at hr
 all_goals (simp only[bare]at h;cases h)
theorem QnF {o:Oper} {a:Act} {v:Value} (h:bare o=true) (hy:YieldsIf P ops (Later w0) o v a):YieldsIf P ops (fun _=>True) o v a:=
 hy.imp (fun ⟨hw,hv⟩=>⟨hw,fun _ _=>Qud h (hv w0 (Later.refl w0))⟩) id
theorem QdS {S:World→Prop} {tl:Nat→Bool} {i:Nat} {oi:Oper} {v:Value} (hi:ops[i]?=some oi) (hsel:∀(j:Nat) (o:Oper) cs b,ops[j]?=some o→o.op≠ .select cs b)
 (hQ:∀c a w,Q (.panic c) (a.put oi.dst v) w→Q (.panic c) a w)
 (hSt:∀(listed:Array Bool) (j:Nat) (w w':World),Closed ops listed→i∈Region.ready .any ops listed→j∈Region.ready .any ops listed→j≠i→(tl j=false→Later w w')→S w→S w'):
 ∀(fuel:Nat) (listed:Array Bool) (a:Act) (w:World),Closed ops listed→
  (∀ j oj,ops[j]?=some oj→j≠i→listed.getD j true=false→(∀ e∈oj.after,Region.binds .any e=true→e.on≠i)→oi.apart ops oj=true)→
  i∈Region.ready .any ops listed→YieldsIf P ops S oi v a→S w→
  Qdl P ops Q tl fuel (listed.setIfInBounds i true) (a.put oi.dst v) w→Qdl P ops Q tl (fuel+1) listed a w:=by
 intro fuel
 induction fuel with
 | zero=>
   intro listed a w _ _ hr hy hS H
   refine⟨fun h=>(by rw[h]at hr;cases hr),fun j hj=>?_⟩
   by_cases hji:j=i
   ·subst hji;exact hy.wpOp hi hS ⟨fun _=>Later.refl _,H⟩
   ·have:=ready_mono hj hji
    rw[H.1]at this
    cases this
 | succ fuel ih=>
   intro listed a w hcl hfree hr hy hS H
   refine⟨fun h=>(by rw[h]at hr;cases hr),fun j hj=>?_⟩
   by_cases hji:j=i
   ·subst hji;exact hy.wpOp hi hS ⟨fun _=>Later.refl _,H⟩
   ·have h1:=H.2 j (ready_mono hj hji)
    obtain⟨hjun,oj,hoj,hall⟩:=mem_ready.1 hj
    have hiun:=(mem_ready.1 hr).1
    have hnot:∀e∈oj.after,Region.binds .any e=true→e.on≠i:=fun e he hb heq=>by
     have h1:=hall e he hb
     rw[heq,QbI hiun]at h1
     cases h1
    have h2:=wpOp_putIf hoj (hfree j oj hoj hji hjun hnot) (fun cs b=>hsel i oi cs b hi) (fun cs b=>hsel j oj cs b hoj) hQ hy h1
    have hfree':∀k ok,ops[k]?=some ok→k≠i→(listed.setIfInBounds j true).getD k true=false→
     (∀ e∈ok.after,Region.binds .any e=true→e.on≠i)→oi.apart ops ok=true:=fun k ok hk hki hun hno=>by
     refine hfree k ok hk hki ?_ hno
     by_cases hjk:j=k
     ·subst hjk;exact hjun
     ·rw[getD_set_ne true hjk]at hun;exact hun
    refine wpOp_mono (fun a' w' h3=>⟨h3.2.1,ih (listed.setIfInBounds j true) a' w' (hcl.set hj) hfree' (ready_mono hr (Ne.symm hji)) h3.1 (hSt listed j w w' hcl hr hj hji h3.2.1 hS) ?_⟩) h2
    rw[Array.setIfInBounds_comm _ _ hji]
    exact h3.2.2
theorem Qyk {ts:List Nat} (hT:Qi0 ops ts=true) {i:Nat} (hti:ts.contains i=false) (hex:QgR ops ts i=false) {listed:Array Bool} (hcl:Closed ops listed) (hr:i∈Region.ready .any ops listed)
 {j:Nat} (hj:j∈Region.ready .any ops listed):ts.contains j=false:=by
 obtain⟨hiun,oi,hi,_⟩:=mem_ready.1 hr
 cases htj:ts.contains j with
 | false=>rfl
 | true=>
   cases ts with
   | nil=>simp at htj
   | cons t r=>
     have hin:i<ops.size:=(Array.getElem?_eq_some_iff.1 hi).1
     obtain⟨h3,h4⟩:=QiX hT hcl _ i rfl hin hti hex hiun
     simp only[Qi0,QC2]at hT
     exact absurd hj (QdD hcl r t hT.2 h3 h4 j (by simpa using htj))
theorem Qfe {ts:List Nat} (hT:Qi0 ops ts=true) {i:Nat} {oi:Oper} {v:Value} (hi:ops[i]?=some oi) (hti:ts.contains i=false)
 (hsel:∀(j:Nat) (o:Oper) cs b,ops[j]?=some o→o.op≠ .select cs b) (hQ:∀c a w,Q (.panic c) (a.put oi.dst v) w→Q (.panic c) a w)
 {fuel:Nat} {listed:Array Bool} {a:Act} {w:World} (hcl:Closed ops listed)
 (hfree:∀j oj,ops[j]?=some oj→j≠i→listed.getD j true=false→(∀ e∈oj.after,Region.binds .any e=true→e.on≠i)→oi.apart ops oj=true)
 (hr:i∈Region.ready .any ops listed) (hy:YieldsIf P ops (Later w) oi v a)
 (H:Qdl P ops Q ts.contains fuel (listed.setIfInBounds i true) (a.put oi.dst v) w):Qdl P ops Q ts.contains (fuel+1) listed a w:=by
 cases hex:QgR ops ts i with
 | true=>
   have hb:bare oi=true:=by
    simp only[QgR,hi,QEd,QEL,QC2]at hex
    exact hex.1
   exact QdS (S:=fun _=>True) hi hsel hQ (fun _ _ _ _ _ _ _ _ _ _=>trivial) fuel listed a w hcl hfree hr (QnF hb hy) trivial H
 | false=>
   exact QdS (S:=Later w) hi hsel hQ (fun listed j w w' hcl hr hj _ h hS=>hS.trans (h (Qyk hT hti hex hcl hr hj))) fuel listed a w hcl hfree hr hy (Later.refl _) H
def QhQ (P:Program) (ops:Array Oper) (Q:Exit→Act→World→Prop) (tl:Nat→Bool):List (Nat×Bool)→Act→World→Prop
 | [],a,w=>Q .normal a w
 | (i,true) :: r,a,w=>∃o,ops[i]?=some o∧if Region.wanted o (yielded ops a.tmps) then o.quiet P a (Later w) (fun a'=>QhQ P ops Q tl r a' w) else QhQ P ops Q tl r (a.put o.dst undef) w
 | (i,false) :: r,a,w=>wpOp P ops Q i (fun a' w'=>(tl i=false→Later w w')∧QhQ P ops Q tl r a' w') a w
def seqB (ops:Array Oper) (tl:Nat→Bool):List (Nat×Bool)→Array Bool→Bool
 | [],listed=>(Region.ready .any ops listed).isEmpty
 | (i,true) :: r,listed=>(Region.ready .any ops listed).contains i&&Region.free .any ops listed i&&((ops[i]?).map calm).getD false&& !tl i&&seqB ops tl r (listed.setIfInBounds i true)
 | (i,false) :: r,listed=>decide (Region.ready .any ops listed=[i])&&seqB ops tl r (listed.setIfInBounds i true)
theorem Qen {ts:List Nat} (hT:Qi0 ops ts=true) (hs:Region.noSelect ops=true) (hQ:∀c a d v w,Q (.panic c) (a.put d v) w→Q (.panic c) a w):
 ∀(l:List (Nat×Bool)) (listed:Array Bool) (a:Act) (w:World),Closed ops listed→seqB ops ts.contains l listed=true→
  QhQ P ops Q ts.contains l a w→Qdl P ops Q ts.contains l.length listed a w
 | [],_,_,_,_,hB,h=>⟨by simpa [seqB] using hB,h⟩
 | (i,true) :: r,listed,a,w,hcl,hB,h=>by
   simp only[seqB,QC2]at hB
   obtain⟨⟨⟨⟨hr,hf⟩,hcm⟩,htl⟩,hB'⟩:=hB
   obtain⟨o,ho,h⟩:=h
   have hr':i∈Region.ready .any ops listed:=by simpa using hr
   have hcm':calm o=true:=by simpa [ho] using hcm
   have htl':ts.contains i=false:=by simpa using htl
   have next:∀v,YieldsIf P ops (Later w) o v a→QhQ P ops Q ts.contains r (a.put o.dst v) w→Qdl P ops Q ts.contains (r.length+1) listed a w:=fun v hy hn=>
    Qfe hT ho htl' (Region.noSelect_spec hs) (fun c a w=>hQ c a _ _ w) hcl (Region.free_spec ho hf) hr' hy
     (Qen hT hs hQ r _ _ w (hcl.set hr') hB' hn)
   by_cases hw:Region.wanted o (yielded ops a.tmps)=true
   ·rw[if_pos hw]at h
    obtain⟨v,hy,hn⟩:=QcV hcm' hw h
    exact next v hy hn
   ·rw[if_neg hw]at h
    exact next undef (.inr ⟨by simpa using hw,rfl⟩) h
 | (i,false) :: r,listed,a,w,hcl,hB,h=>by
   simp only[seqB,QC2,decide_eq_true_eq]at hB
   obtain⟨hr,hB'⟩:=hB
   refine⟨fun h0=>(by rw[hr]at h0;cases h0),fun j hj=>?_⟩
   rw[hr]at hj
   obtain rfl:j=i:=by simpa using hj
   exact wpOp_mono (fun a' w' h3=>⟨h3.1,Qen hT hs hQ r _ a' w' (hcl.set (by rw[hr];simp)) hB' h3.2⟩) h
def pick:List Oper→List Nat→List Oper
 | _,[]=>[]
 | l,i :: r=>(l[i]?).toList++pick l r
theorem QdQ {l:List Oper} {Qa:Act→Prop} {r:List (Nat×Bool)} {tl:Nat→Bool} {w:World} (hQa:∀a,Qa a→QhQ P l.toArray Q tl r a w):∀(qs:List Nat),(qs.all fun i=>decide (i<l.length))=true→
 ∀a,wpQuiet P l.toArray (Later w) Qa (pick l qs) a→QhQ P l.toArray Q tl (qs.map (·,true)++r) a w
 | [],_,a,h=>hQa a h
 | i :: qs,hb,a,h=>by
   simp only[QDZ,QC2,decide_eq_true_eq]at hb
   have hi:l[i]?=some (l[i]'hb.1):=QCJ hb.1
   refine⟨l[i]'hb.1,by simp[hb.1],?_⟩
   simp only[pick,hi,QCG,QEt,wpQuiet]at h
   by_cases hw:Region.wanted (l[i]'hb.1) (yielded l.toArray a.tmps)=true
   ·rw[if_pos hw]at h ⊢
    exact Oper.quiet_mono (fun a' h'=>QdQ hQa qs hb.2 a' h') h
   ·rw[if_neg hw]at h ⊢
    exact QdQ hQa qs hb.2 _ h
theorem Qcx {l:List Oper} {i:Nat} (hi:i<l.length) {K:Act→World→Prop} {a:Act} {w:World} (h:wpList P l.toArray (Exit.then K Q) (pick l [i]) a w):wpOp P l.toArray Q i K a w:=by
 have hi':l[i]?=some (l[i]'hi):=QCJ hi
 simp only[pick,hi',QCG,QDf,wpList]at h
 have hk:∀a w,wpList P l.toArray (Exit.then K Q) [] a w→K a w:=fun a w h=>h
 unfold wpOp
 simp only[List.getElem?_toArray,hi']
 by_cases hw:Region.wanted (l[i]'hi) (yielded l.toArray a.tmps)=true
 ·rw[if_pos hw]at h ⊢
  rcases h with h|⟨h1,h2⟩
  ·left
   have h:=Oper.wp_mono hk h
   unfold Oper.wp at h ⊢
   generalize (execOp a.eval (l[i]'hi)).run P w=r at h ⊢
   cases r with
   | ok n w'=>
     cases n<;>simp only[Oper.upon]at h ⊢ <;>first
      | exact h
      | exact Calls.mono h (fun e w'' he=>(by cases e<;>exact he))
   | halt x w'=>cases x<;>simp only[Oper.upon]at h ⊢;exact h
  ·exact .inr ⟨h1,h2⟩
 ·rw[if_neg hw]at h ⊢
  exact h
theorem QfJ {l:List Oper} {tl:Nat→Bool}:∀(ts:List Nat),(ts.all fun i=>decide (i<l.length)&&tl i)=true→
 ∀a w,wpList P l.toArray Q (pick l ts) a w→QhQ P l.toArray Q tl (ts.map (·,false)) a w
 | [],_,a,w,h=>h
 | i :: ts,hb,a,w,h=>by
   simp only[QDZ,QC2,decide_eq_true_eq]at hb
   have hi:l[i]?=some (l[i]'hb.1.1):=QCJ hb.1.1
   simp only[pick,hi,QCG,QEt,wpList]at h
   show wpOp P l.toArray Q i _ a w
   unfold wpOp
   simp only[List.getElem?_toArray,hi]
   have hn:∀a w1,wpList P l.toArray Q (pick l ts) a w1→(tl i=false→Later w w1)∧QhQ P l.toArray Q tl (ts.map (·,false)) a w1:=fun a w1 h=>
    ⟨fun h0=>(by rw[hb.1.2]at h0;cases h0),QfJ ts hb.2 a w1 h⟩
   by_cases hw:Region.wanted (l[i]'hb.1.1) (yielded l.toArray a.tmps)=true
   ·rw[if_pos hw]at h ⊢
    exact h.imp (Oper.wp_mono hn) id
   ·rw[if_neg hw]at h ⊢
    exact hn _ _ h
def Qah (P:Program) (l:List Oper) (Q:Exit→Act→World→Prop) (qs ts:List Nat):List (List Nat×Nat)→Act→World→Prop
 | [],a,w=>wpQuiet P l.toArray (fun w'=>∃x,w'=grow w x) (fun a'=>wpList P l.toArray Q (pick l ts) a' w) (pick l qs) a
 | (q,i) :: r,a,w=>wpQuiet P l.toArray (fun w'=>∃x,w'=grow w x) (fun a'=>wpList P l.toArray (Exit.then (fun a'' w''=>Later w w''∧Qah P l Q qs ts r a'' w'') Q) (pick l [i]) a' w) (pick l q) a
def flat (qs ts:List Nat):List (List Nat×Nat)→List (Nat×Bool)
 | []=>qs.map (·,true)++ts.map (·,false)
 | (q,i) :: r=>q.map (·,true)++(i,false) :: flat qs ts r
def QvI (l:List Oper) (qs ts:List Nat) (segs:List (List Nat×Nat)):Bool:=
 Region.noSelect l.toArray&&Qi0 l.toArray ts&&(qs.all fun i=>decide (i<l.length))&&(ts.all fun i=>decide (i<l.length)&&ts.contains i)&&(segs.all fun s=>decide (s.2<l.length)&&s.1.all fun i=>decide (i<l.length)) &&
 seqB l.toArray ts.contains (flat qs ts segs) (QEe l.length false)&&decide ((flat qs ts segs).length=l.length)
theorem Qg3 {l:List Oper} {qs ts:List Nat} (hq:(qs.all fun i=>decide (i<l.length))=true) (ht:(ts.all fun i=>decide (i<l.length)&&ts.contains i)=true):
 ∀(segs:List (List Nat×Nat)),(segs.all fun s=>decide (s.2<l.length)&&s.1.all fun i=>decide (i<l.length))=true→∀a w,Qah P l Q qs ts segs a w→QhQ P l.toArray Q ts.contains (flat qs ts segs) a w
 | [],_,a,w,h=>QdQ (fun a h=>QfJ ts ht a w h) qs hq a h
 | (q,i) :: r,hb,a,w,h=>by
   simp only[QDZ,QC2,decide_eq_true_eq]at hb
   refine QdQ (fun a h=>?_) q hb.1.2 a h
   exact wpOp_mono (fun a' w' h'=>⟨fun _=>h'.1,Qg3 hq ht r hb.2 a' w' h'.2⟩) (Qcx hb.1.1 h)
theorem Qfc (l:List Oper):Closed l.toArray (QEe l.length false):=⟨by simp,fun j oj hj hl=>by
 rcases QDJ j l.length with h|h
 ·simp[h]at hl
 ·simp[h]at hl⟩
theorem Qag {id:Nat} {a:Act} {w:World} {l:List Oper} (segs:List (List Nat×Nat)) (qs ts:List Nat) (hm:P.follows .mixedOrders=true) (hB:QvI l qs ts segs=true)
 (hQ:∀c a d v w,Q (.panic c) (a.put d v) w→Q (.panic c) a w) (h:Qah P l Q qs ts segs a w.drew):(Code.region id l.toArray true).wp P Q a w:=by
 simp only[QvI,QC2,decide_eq_true_eq]at hB
 obtain⟨⟨⟨⟨⟨⟨hs,hT⟩,hq⟩,ht⟩,hsg⟩,hsq⟩,hlen⟩:=hB
 refine wp_region_any hm (Qfm (tl:=ts.contains) _ _ _ _ ?_)
 have:=Qen hT hs hQ (flat qs ts segs) (QEe l.length false) a w.drew (Qfc l) hsq (Qg3 hq ht segs hsg a _ h)
 rw[hlen]at this
 simpa using this
end
def W8 (x:UInt8):Value:=.int .u8 (x.toNat:Int)
def W32 (x:UInt32):Value:=.int .u32 (x.toNat:Int)
def W64 (x:UInt64):Value:=.int .u64 (x.toNat:Int)
theorem Qdg (n:Int):IntKind.u8.wrap n=n%256:=by simp[IntKind.wrap,IntKind.bits,IntKind.signed]
theorem Qcz (n:Int):IntKind.u32.wrap n=n%4294967296:=by simp[IntKind.wrap,IntKind.bits,IntKind.signed]
theorem QcA (n:Int):IntKind.u64.wrap n=n%18446744073709551616:=by simp[IntKind.wrap,IntKind.bits,IntKind.signed]
theorem Qa0 {k:Nat} (x:BitVec k):QDY k (x.toNat:Int)=x:=by
 apply BitVec.eq_of_toNat_eq
 simp
theorem Qkn (x:UInt8):((x.toNat:Int)%256)=x.toNat:=by have:=x.toNat_lt;omega
theorem QhP (x:UInt32):((x.toNat:Int)%4294967296)=x.toNat:=by have:=x.toNat_lt;omega
theorem Qif (x:UInt64):((x.toNat:Int)%18446744073709551616)=x.toNat:=by have:=x.toNat_lt;omega
def cnt (n:UInt64):Nat:=n.toNat
theorem Qa2 (T:TypeId) (ox oy:Operand) (op:BinOp) (k k':IntKind) (x y:Int):eqGuard op T ox oy (.int k x) (.int k' y)=pure ():=by
 cases op<;>rfl
def shl8 (x:UInt8) (n:Nat):UInt8:=⟨x.toBitVec <<< n⟩
def shr8 (x:UInt8) (n:Nat):UInt8:=⟨x.toBitVec >>> n⟩
theorem Qf3 {x:UInt8} {n:Int} (h:(x.toNat:Int)=n):Value.int .u8 n=W8 x:=by rw[W8,h]
section
variable (T:TypeId) (ox oy:Operand)
@[go_sem] theorem QyE (op:BinOp) (x y:UInt8):eqGuard op T ox oy (W8 x) (W8 y)=pure ():=Qa2 ..
@[go_sem] theorem Qxt (op:BinOp) (x:UInt8) (k:IntKind) (y:Int):eqGuard op T ox oy (W8 x) (.int k y)=pure ():=Qa2 ..
@[go_sem] theorem Qxi (op:BinOp) (x:UInt8) (k:IntKind) (y:Int):eqGuard op T ox oy (.int k y) (W8 x)=pure ():=Qa2 ..
theorem QbE (n:Int) (h0:0≤n) (h1:n<256):Value.int .u8 n=W8 (QDe n.toNat):=by
 apply Qf3
 rw[QDB]
 omega
theorem QoP (n:Int):(QDh n).toNat=(n%256).toNat:=by
 simp[QDh,QDB]
 try omega
theorem QxC (n:Int):Value.int .u8 (IntKind.wrap .u8 n)=W8 (QDh n):=by
 apply Qf3
 rw[Qdg]
 have:=QoP n
 omega
@[go_sem] theorem QwB (x y:UInt8):binOp .add T (W8 x) (W8 y)=pure (W8 (x+y)):=by
  show binOp .add T (.int .u8 x.toNat) (.int .u8 y.toNat)=_
  rw[binOp_add]
  simp only[Op.intArith]
  rw[Qf3 (x:=x+y)]
  rw[Qdg,UInt8.toNat_add]
  omega
@[go_sem] theorem QB9 (x:UInt8) (n:Int) (h0:0≤n) (h1:n<256):binOp .add T (W8 x) (.int .u8 n)=pure (W8 (x+QDe n.toNat)):=by
  rw[QbE n h0 h1]
  exact QwB T x _
@[go_sem] theorem QB2 (y:UInt8) (n:Int) (h0:0≤n) (h1:n<256):binOp .add T (.int .u8 n) (W8 y)=pure (W8 (QDe n.toNat+y)):=by
  rw[QbE n h0 h1]
  exact QwB T _ y
@[go_sem] theorem Qwn (x y:UInt8):binOp .sub T (W8 x) (W8 y)=pure (W8 (x-y)):=by
  show binOp .sub T (.int .u8 x.toNat) (.int .u8 y.toNat)=_
  rw[binOp_sub]
  simp only[Op.intArith]
  rw[Qf3 (x:=x-y)]
  rw[Qdg,UInt8.toNat_sub]
  have:=y.toNat_lt
  omega
@[go_sem] theorem QBV (x:UInt8) (n:Int) (h0:0≤n) (h1:n<256):binOp .sub T (W8 x) (.int .u8 n)=pure (W8 (x-QDe n.toNat)):=by
  rw[QbE n h0 h1]
  exact Qwn T x _
@[go_sem] theorem QCq (y:UInt8) (n:Int) (h0:0≤n) (h1:n<256):binOp .sub T (.int .u8 n) (W8 y)=pure (W8 (QDe n.toNat-y)):=by
  rw[QbE n h0 h1]
  exact Qwn T _ y
@[go_sem] theorem Qwz (x y:UInt8):binOp .mul T (W8 x) (W8 y)=pure (W8 (x*y)):=by
  show binOp .mul T (.int .u8 x.toNat) (.int .u8 y.toNat)=_
  rw[binOp_mul]
  simp only[Op.intArith]
  rw[Qf3 (x:=x*y)]
  rw[Qdg,UInt8.toNat_mul,←QEp]
  omega
@[go_sem] theorem QBN (x:UInt8) (n:Int) (h0:0≤n) (h1:n<256):binOp .mul T (W8 x) (.int .u8 n)=pure (W8 (x*QDe n.toNat)):=by
  rw[QbE n h0 h1]
  exact Qwz T x _
@[go_sem] theorem QB3 (y:UInt8) (n:Int) (h0:0≤n) (h1:n<256):binOp .mul T (.int .u8 n) (W8 y)=pure (W8 (QDe n.toNat*y)):=by
  rw[QbE n h0 h1]
  exact Qwz T _ y
@[go_sem] theorem QvG (x y:UInt8):binOp .and T (W8 x) (W8 y)=pure (W8 (x &&& y)):=by
  show binOp .and T (.int .u8 x.toNat) (.int .u8 y.toNat)=_
  rw[binOp_and]
  simp only[Op.intBits]
  rw[Qf3 (x:=x &&& y)]
  have e1:QDY (IntKind.bits .u8) (x.toNat:Int)=x.toBitVec:=Qa0 x.toBitVec
  have e2:QDY (IntKind.bits .u8) (y.toNat:Int)=y.toBitVec:=Qa0 y.toBitVec
  rw[e1,e2,Qdg]
  exact (Qkn (x &&& y)).symm
@[go_sem] theorem QBG (x:UInt8) (n:Int) (h0:0≤n) (h1:n<256):binOp .and T (W8 x) (.int .u8 n)=pure (W8 (x &&& QDe n.toNat)):=by
  rw[QbE n h0 h1]
  exact QvG T x _
@[go_sem] theorem QBI (y:UInt8) (n:Int) (h0:0≤n) (h1:n<256):binOp .and T (.int .u8 n) (W8 y)=pure (W8 (QDe n.toNat &&& y)):=by
  rw[QbE n h0 h1]
  exact QvG T _ y
@[go_sem] theorem Qy6 (x y:UInt8):binOp .or T (W8 x) (W8 y)=pure (W8 (x ||| y)):=by
  show binOp .or T (.int .u8 x.toNat) (.int .u8 y.toNat)=_
  rw[binOp_or]
  simp only[Op.intBits]
  rw[Qf3 (x:=x ||| y)]
  have e1:QDY (IntKind.bits .u8) (x.toNat:Int)=x.toBitVec:=Qa0 x.toBitVec
  have e2:QDY (IntKind.bits .u8) (y.toNat:Int)=y.toBitVec:=Qa0 y.toBitVec
  rw[e1,e2,Qdg]
  exact (Qkn (x ||| y)).symm
@[go_sem] theorem QCv (x:UInt8) (n:Int) (h0:0≤n) (h1:n<256):binOp .or T (W8 x) (.int .u8 n)=pure (W8 (x ||| QDe n.toNat)):=by
  rw[QbE n h0 h1]
  exact Qy6 T x _
@[go_sem] theorem QCy (y:UInt8) (n:Int) (h0:0≤n) (h1:n<256):binOp .or T (.int .u8 n) (W8 y)=pure (W8 (QDe n.toNat ||| y)):=by
  rw[QbE n h0 h1]
  exact Qy6 T _ y
@[go_sem] theorem QwA (x y:UInt8):binOp .xor T (W8 x) (W8 y)=pure (W8 (x ^^^ y)):=by
  show binOp .xor T (.int .u8 x.toNat) (.int .u8 y.toNat)=_
  rw[binOp_xor]
  simp only[Op.intBits]
  rw[Qf3 (x:=x ^^^ y)]
  have e1:QDY (IntKind.bits .u8) (x.toNat:Int)=x.toBitVec:=Qa0 x.toBitVec
  have e2:QDY (IntKind.bits .u8) (y.toNat:Int)=y.toBitVec:=Qa0 y.toBitVec
  rw[e1,e2,Qdg]
  exact (Qkn (x ^^^ y)).symm
@[go_sem] theorem QB1 (x:UInt8) (n:Int) (h0:0≤n) (h1:n<256):binOp .xor T (W8 x) (.int .u8 n)=pure (W8 (x ^^^ QDe n.toNat)):=by
  rw[QbE n h0 h1]
  exact QwA T x _
@[go_sem] theorem QwK (y:UInt8) (n:Int) (h0:0≤n) (h1:n<256):binOp .xor T (.int .u8 n) (W8 y)=pure (W8 (QDe n.toNat ^^^ y)):=by
  rw[QbE n h0 h1]
  exact QwA T _ y
@[go_sem] theorem Qwt (x y:UInt8):binOp .eql T (W8 x) (W8 y)=pure (.bool (x==y)):=by
  show binOp .eql T (.int .u8 x.toNat) (.int .u8 y.toNat)=_
  rw[binOp_eql]
  have:((x.toNat:Int)==(y.toNat:Int))=(x==y):=by
   rw[QDw,beq_iff_eq,beq_iff_eq,←QDr]
   omega
  simp only[this]
@[go_sem] theorem QBZ (x:UInt8) (n:Int) (h0:0≤n) (h1:n<256):binOp .eql T (W8 x) (.int .u8 n)=pure (.bool (x==(QDe n.toNat))):=by
  rw[QbE n h0 h1]
  exact Qwt T x _
@[go_sem] theorem QBC (y:UInt8) (n:Int) (h0:0≤n) (h1:n<256):binOp .eql T (.int .u8 n) (W8 y)=pure (.bool ((QDe n.toNat)==y)):=by
  rw[QbE n h0 h1]
  exact Qwt T _ y
@[go_sem] theorem QvB (x y:UInt8):binOp .neq T (W8 x) (W8 y)=pure (.bool (x != y)):=by
  show binOp .neq T (.int .u8 x.toNat) (.int .u8 y.toNat)=_
  rw[binOp_neq]
  have:((x.toNat:Int)==(y.toNat:Int))=(x==y):=by
   rw[QDw,beq_iff_eq,beq_iff_eq,←QDr]
   omega
  simp only[bne,this]
@[go_sem] theorem QBx (x:UInt8) (n:Int) (h0:0≤n) (h1:n<256):binOp .neq T (W8 x) (.int .u8 n)=pure (.bool (x != (QDe n.toNat))):=by
  rw[QbE n h0 h1]
  exact QvB T x _
@[go_sem] theorem QCj (y:UInt8) (n:Int) (h0:0≤n) (h1:n<256):binOp .neq T (.int .u8 n) (W8 y)=pure (.bool ((QDe n.toNat) != y)):=by
  rw[QbE n h0 h1]
  exact QvB T _ y
@[go_sem] theorem QvZ (x y:UInt8):binOp .lss T (W8 x) (W8 y)=pure (.bool (decide (x<y))):=by
  show binOp .lss T (.int .u8 x.toNat) (.int .u8 y.toNat)=_
  rw[binOp_lss]
  congr 2
  rw[decide_eq_decide,QEu]
  omega
@[go_sem] theorem QB6 (x:UInt8) (n:Int) (h0:0≤n) (h1:n<256):binOp .lss T (W8 x) (.int .u8 n)=pure (.bool (decide (x<(QDe n.toNat)))):=by
  rw[QbE n h0 h1]
  exact QvZ T x _
@[go_sem] theorem QBk (y:UInt8) (n:Int) (h0:0≤n) (h1:n<256):binOp .lss T (.int .u8 n) (W8 y)=pure (.bool (decide ((QDe n.toNat)<y))):=by
  rw[QbE n h0 h1]
  exact QvZ T _ y
@[go_sem] theorem Qv3 (x y:UInt8):binOp .leq T (W8 x) (W8 y)=pure (.bool (decide (x≤y))):=by
  show binOp .leq T (.int .u8 x.toNat) (.int .u8 y.toNat)=_
  rw[binOp_leq]
  congr 2
  rw[decide_eq_decide,UInt8.le_iff_toNat_le]
  omega
@[go_sem] theorem QCb (x:UInt8) (n:Int) (h0:0≤n) (h1:n<256):binOp .leq T (W8 x) (.int .u8 n)=pure (.bool (decide (x≤(QDe n.toNat)))):=by
  rw[QbE n h0 h1]
  exact Qv3 T x _
@[go_sem] theorem QBz (y:UInt8) (n:Int) (h0:0≤n) (h1:n<256):binOp .leq T (.int .u8 n) (W8 y)=pure (.bool (decide ((QDe n.toNat)≤y))):=by
  rw[QbE n h0 h1]
  exact Qv3 T _ y
@[go_sem] theorem Qwr (x y:UInt8):binOp .gtr T (W8 x) (W8 y)=pure (.bool (decide (y<x))):=by
  show binOp .gtr T (.int .u8 x.toNat) (.int .u8 y.toNat)=_
  rw[binOp_gtr]
  congr 2
  rw[decide_eq_decide,QEu]
  omega
@[go_sem] theorem QCp (x:UInt8) (n:Int) (h0:0≤n) (h1:n<256):binOp .gtr T (W8 x) (.int .u8 n)=pure (.bool (decide ((QDe n.toNat)<x))):=by
  rw[QbE n h0 h1]
  exact Qwr T x _
@[go_sem] theorem QCh (y:UInt8) (n:Int) (h0:0≤n) (h1:n<256):binOp .gtr T (.int .u8 n) (W8 y)=pure (.bool (decide (y<(QDe n.toNat)))):=by
  rw[QbE n h0 h1]
  exact Qwr T _ y
@[go_sem] theorem Qwu (x y:UInt8):binOp .geq T (W8 x) (W8 y)=pure (.bool (decide (y≤x))):=by
  show binOp .geq T (.int .u8 x.toNat) (.int .u8 y.toNat)=_
  rw[binOp_geq]
  congr 2
  rw[decide_eq_decide,UInt8.le_iff_toNat_le]
  omega
@[go_sem] theorem QBY (x:UInt8) (n:Int) (h0:0≤n) (h1:n<256):binOp .geq T (W8 x) (.int .u8 n)=pure (.bool (decide ((QDe n.toNat)≤x))):=by
  rw[QbE n h0 h1]
  exact Qwu T x _
@[go_sem] theorem QBj (y:UInt8) (n:Int) (h0:0≤n) (h1:n<256):binOp .geq T (.int .u8 n) (W8 y)=pure (.bool (decide (y≤(QDe n.toNat)))):=by
  rw[QbE n h0 h1]
  exact Qwu T _ y
@[go_sem] theorem QvQ (x y:UInt8) (hy: ¬((y).toNat:Int)=0):binOp .quo T (W8 x) (W8 y)=pure (W8 (x/y)):=by
  show binOp .quo T (.int .u8 x.toNat) (.int .u8 y.toNat)=_
  rw[binOp_quo]
  simp only[Op.intDiv]
  rw[if_neg hy,Qf3 (x:=x/y)]
  rw[Qdg,UInt8.toNat_div,Int.tdiv_eq_ediv_of_nonneg (by omega),←Int.natCast_ediv]
  have h1:=Nat.div_le_self x.toNat y.toNat
  have h2:=x.toNat_lt
  generalize x.toNat/y.toNat=q at *
  omega
@[go_sem] theorem QB0 (x:UInt8) (n:Int) (h0:0≤n) (h1:n<256) (hy: ¬((QDe n.toNat).toNat:Int)=0):binOp .quo T (W8 x) (.int .u8 n)=pure (W8 (x/(QDe n.toNat))):=by
  rw[QbE n h0 h1]
  exact QvQ T x _ hy
@[go_sem] theorem QBX (y:UInt8) (n:Int) (h0:0≤n) (h1:n<256) (hy: ¬((y).toNat:Int)=0):binOp .quo T (.int .u8 n) (W8 y)=pure (W8 (QDe n.toNat/y)):=by
  rw[QbE n h0 h1]
  exact QvQ T _ y hy
@[go_sem] theorem Qwh (x y:UInt8) (hy: ¬((y).toNat:Int)=0):binOp .rem T (W8 x) (W8 y)=pure (W8 (x%y)):=by
  show binOp .rem T (.int .u8 x.toNat) (.int .u8 y.toNat)=_
  rw[binOp_rem]
  simp only[Op.intDiv]
  rw[if_neg hy,Qf3 (x:=x%y)]
  rw[UInt8.toNat_mod,Int.tmod_eq_emod_of_nonneg (by omega),←Int.natCast_emod]
@[go_sem] theorem QCk (x:UInt8) (n:Int) (h0:0≤n) (h1:n<256) (hy: ¬((QDe n.toNat).toNat:Int)=0):binOp .rem T (W8 x) (.int .u8 n)=pure (W8 (x%(QDe n.toNat))):=by
  rw[QbE n h0 h1]
  exact Qwh T x _ hy
@[go_sem] theorem QBr (y:UInt8) (n:Int) (h0:0≤n) (h1:n<256) (hy: ¬((y).toNat:Int)=0):binOp .rem T (.int .u8 n) (W8 y)=pure (W8 (QDe n.toNat%y)):=by
  rw[QbE n h0 h1]
  exact Qwh T _ y hy
theorem Qtc (x:UInt8) (yk:IntKind) (n:Int) (h0:0≤n):binOp .shl T (W8 x) (.int yk n)=pure (W8 (shl8 x n.toNat)):=by
 show binOp .shl T (.int .u8 x.toNat) (.int yk n)=_
 rw[binOp_shl]
 simp only[Op.shift]
 rw[if_neg (by omega),Qf3 (x:=shl8 x n.toNat)]
 have e:(shl8 x n.toNat).toNat=(x.toNat*2^n.toNat)%256:=by
  show (x.toBitVec <<< n.toNat).toNat=_
  rw[QEC,QEM]
  rfl
 rw[Qdg,e]
 have hb:IntKind.bits .u8=8:=rfl
 rw[hb]
 rcases Nat.le_total n.toNat 8 with h|h
 ·rw[QDK h]
  have:((2:Int)^n.toNat)=((2^n.toNat:Nat):Int):=by simp
  rw[this,←QEp]
  omega
 ·rw[Nat.min_eq_right h]
  obtain⟨d,hd⟩:=Nat.exists_eq_add_of_le h
  have e1:x.toNat*2^n.toNat=256*(x.toNat*2^d):=by rw[hd,QD2];show x.toNat*(256*2^d)=_;rw[QEP]
  rw[e1,Nat.mul_mod_right]
  omega
@[go_sem] theorem QCA (x:UInt8) (yk:IntKind) (n:Int):binOp .shl T (W8 x) (.int yk n)=if n<0 then runtimePanic (.error "negative shift amount") else pure (W8 (shl8 x n.toNat)):=by
  by_cases h:n<0
  ·rw[if_pos h]
   show binOp .shl T (.int .u8 x.toNat) (.int yk n)=_
   rw[binOp_shl]
   simp only[Op.shift]
   rw[if_pos h]
  ·rw[if_neg h]
   exact Qtc T x yk n (by omega)
theorem Qrt (x:UInt8) (yk:IntKind) (n:Int) (h0:0≤n):binOp .shr T (W8 x) (.int yk n)=pure (W8 (shr8 x n.toNat)):=by
 show binOp .shr T (.int .u8 x.toNat) (.int yk n)=_
 rw[binOp_shr]
 simp only[Op.shift]
 rw[if_neg (by omega),Qf3 (x:=shr8 x n.toNat)]
 have e:(shr8 x n.toNat).toNat=x.toNat/2^n.toNat:=by
  show (x.toBitVec >>> n.toNat).toNat=_
  rw[QDz,QDv]
  rfl
 rw[e]
 have hb:IntKind.bits .u8=8:=rfl
 rw[hb]
 have hx:=x.toNat_lt
 have ep:∀m:Nat,((2:Int)^m)=((2^m:Nat):Int):=fun m=>by simp
 rw[ep,Int.fdiv_eq_ediv_of_nonneg _ (Int.natCast_nonneg _),←Int.natCast_ediv]
 rcases Nat.le_total n.toNat 8 with h|h
 ·rw[QDK h]
 ·rw[Nat.min_eq_right h]
  have h1:x.toNat/2^8=0:=QDy (by simpa using hx)
  have h2:x.toNat/2^n.toNat=0:=QDy (QCX (by simpa using hx) (QDH (by omega) h))
  rw[h1,h2]
@[go_sem] theorem QCw (x:UInt8) (yk:IntKind) (n:Int):binOp .shr T (W8 x) (.int yk n)=if n<0 then runtimePanic (.error "negative shift amount") else pure (W8 (shr8 x n.toNat)):=by
  by_cases h:n<0
  ·rw[if_pos h]
   show binOp .shr T (.int .u8 x.toNat) (.int yk n)=_
   rw[binOp_shr]
   simp only[Op.shift]
   rw[if_pos h]
  ·rw[if_neg h]
   exact Qrt T x yk n (by omega)
@[go_sem] theorem QBW (x:UInt8) (n:UInt64):binOp .shl T (W8 x) (W64 n)=pure (W8 (shl8 x (cnt n))):=Qtc T x .u64 n.toNat (by omega)
@[go_sem] theorem QBS (x:UInt8) (n:UInt64):binOp .shr T (W8 x) (W64 n)=pure (W8 (shr8 x (cnt n))):=Qrt T x .u64 n.toNat (by omega)
@[go_sem] theorem QvA (x:UInt8):Op.unary .xor (W8 x)=pure (W8 (~~~x)):=by
  have h:binOp .xor 0 (.int .u8 (255:Int)) (W8 x)=pure (W8 (~~~x)):=by
   rw[QwK 0 x 255 (by omega) (by omega)]
   congr 2
  exact h
end
def QfA (x:UInt32) (n:Nat):UInt32:=⟨x.toBitVec <<< n⟩
def QcD (x:UInt32) (n:Nat):UInt32:=⟨x.toBitVec >>> n⟩
theorem Qdu {x:UInt32} {n:Int} (h:(x.toNat:Int)=n):Value.int .u32 n=W32 x:=by rw[W32,h]
section
variable (T:TypeId) (ox oy:Operand)
@[go_sem] theorem QxK (op:BinOp) (x y:UInt32):eqGuard op T ox oy (W32 x) (W32 y)=pure ():=Qa2 ..
@[go_sem] theorem Qv1 (op:BinOp) (x:UInt32) (k:IntKind) (y:Int):eqGuard op T ox oy (W32 x) (.int k y)=pure ():=Qa2 ..
@[go_sem] theorem Qws (op:BinOp) (x:UInt32) (k:IntKind) (y:Int):eqGuard op T ox oy (.int k y) (W32 x)=pure ():=Qa2 ..
theorem Qbc (n:Int) (h0:0≤n) (h1:n<4294967296):Value.int .u32 n=W32 (QDg n.toNat):=by
 apply Qdu
 rw[QEE]
 omega
theorem Qk2 (n:Int):(QEl n).toNat=(n%4294967296).toNat:=by
 simp[QEl,QEE]
 try omega
theorem Quv (n:Int):Value.int .u32 (IntKind.wrap .u32 n)=W32 (QEl n):=by
 apply Qdu
 rw[Qcz]
 have:=Qk2 n
 omega
@[go_sem] theorem QqG (x y:UInt32):binOp .add T (W32 x) (W32 y)=pure (W32 (x+y)):=by
  show binOp .add T (.int .u32 x.toNat) (.int .u32 y.toNat)=_
  rw[binOp_add]
  simp only[Op.intArith]
  rw[Qdu (x:=x+y)]
  rw[Qcz,UInt32.toNat_add]
  omega
@[go_sem] theorem QAO (x:UInt32) (n:Int) (h0:0≤n) (h1:n<4294967296):binOp .add T (W32 x) (.int .u32 n)=pure (W32 (x+QDg n.toNat)):=by
  rw[Qbc n h0 h1]
  exact QqG T x _
@[go_sem] theorem QAA (y:UInt32) (n:Int) (h0:0≤n) (h1:n<4294967296):binOp .add T (.int .u32 n) (W32 y)=pure (W32 (QDg n.toNat+y)):=by
  rw[Qbc n h0 h1]
  exact QqG T _ y
@[go_sem] theorem QsY (x y:UInt32):binOp .sub T (W32 x) (W32 y)=pure (W32 (x-y)):=by
  show binOp .sub T (.int .u32 x.toNat) (.int .u32 y.toNat)=_
  rw[binOp_sub]
  simp only[Op.intArith]
  rw[Qdu (x:=x-y)]
  rw[Qcz,UInt32.toNat_sub]
  have:=y.toNat_lt
  omega
@[go_sem] theorem QAC (x:UInt32) (n:Int) (h0:0≤n) (h1:n<4294967296):binOp .sub T (W32 x) (.int .u32 n)=pure (W32 (x-QDg n.toNat)):=by
  rw[Qbc n h0 h1]
  exact QsY T x _
@[go_sem] theorem QAE (y:UInt32) (n:Int) (h0:0≤n) (h1:n<4294967296):binOp .sub T (.int .u32 n) (W32 y)=pure (W32 (QDg n.toNat-y)):=by
  rw[Qbc n h0 h1]
  exact QsY T _ y
@[go_sem] theorem Qsi (x y:UInt32):binOp .mul T (W32 x) (W32 y)=pure (W32 (x*y)):=by
  show binOp .mul T (.int .u32 x.toNat) (.int .u32 y.toNat)=_
  rw[binOp_mul]
  simp only[Op.intArith]
  rw[Qdu (x:=x*y)]
  rw[Qcz,UInt32.toNat_mul,←QEp]
  omega
@[go_sem] theorem QBa (x:UInt32) (n:Int) (h0:0≤n) (h1:n<4294967296):binOp .mul T (W32 x) (.int .u32 n)=pure (W32 (x*QDg n.toNat)):=by
  rw[Qbc n h0 h1]
  exact Qsi T x _
@[go_sem] theorem QAL (y:UInt32) (n:Int) (h0:0≤n) (h1:n<4294967296):binOp .mul T (.int .u32 n) (W32 y)=pure (W32 (QDg n.toNat*y)):=by
  rw[Qbc n h0 h1]
  exact Qsi T _ y
@[go_sem] theorem Qsp (x y:UInt32):binOp .and T (W32 x) (W32 y)=pure (W32 (x &&& y)):=by
  show binOp .and T (.int .u32 x.toNat) (.int .u32 y.toNat)=_
  rw[binOp_and]
  simp only[Op.intBits]
  rw[Qdu (x:=x &&& y)]
  have e1:QDY (IntKind.bits .u32) (x.toNat:Int)=x.toBitVec:=Qa0 x.toBitVec
  have e2:QDY (IntKind.bits .u32) (y.toNat:Int)=y.toBitVec:=Qa0 y.toBitVec
  rw[e1,e2,Qcz]
  exact (QhP (x &&& y)).symm
@[go_sem] theorem QAz (x:UInt32) (n:Int) (h0:0≤n) (h1:n<4294967296):binOp .and T (W32 x) (.int .u32 n)=pure (W32 (x &&& QDg n.toNat)):=by
  rw[Qbc n h0 h1]
  exact Qsp T x _
@[go_sem] theorem QAh (y:UInt32) (n:Int) (h0:0≤n) (h1:n<4294967296):binOp .and T (.int .u32 n) (W32 y)=pure (W32 (QDg n.toNat &&& y)):=by
  rw[Qbc n h0 h1]
  exact Qsp T _ y
@[go_sem] theorem QvP (x y:UInt32):binOp .or T (W32 x) (W32 y)=pure (W32 (x ||| y)):=by
  show binOp .or T (.int .u32 x.toNat) (.int .u32 y.toNat)=_
  rw[binOp_or]
  simp only[Op.intBits]
  rw[Qdu (x:=x ||| y)]
  have e1:QDY (IntKind.bits .u32) (x.toNat:Int)=x.toBitVec:=Qa0 x.toBitVec
  have e2:QDY (IntKind.bits .u32) (y.toNat:Int)=y.toBitVec:=Qa0 y.toBitVec
  rw[e1,e2,Qcz]
  exact (QhP (x ||| y)).symm
@[go_sem] theorem QCf (x:UInt32) (n:Int) (h0:0≤n) (h1:n<4294967296):binOp .or T (W32 x) (.int .u32 n)=pure (W32 (x ||| QDg n.toNat)):=by
  rw[Qbc n h0 h1]
  exact QvP T x _
@[go_sem] theorem QBO (y:UInt32) (n:Int) (h0:0≤n) (h1:n<4294967296):binOp .or T (.int .u32 n) (W32 y)=pure (W32 (QDg n.toNat ||| y)):=by
  rw[Qbc n h0 h1]
  exact QvP T _ y
@[go_sem] theorem Qqx (x y:UInt32):binOp .xor T (W32 x) (W32 y)=pure (W32 (x ^^^ y)):=by
  show binOp .xor T (.int .u32 x.toNat) (.int .u32 y.toNat)=_
  rw[binOp_xor]
  simp only[Op.intBits]
  rw[Qdu (x:=x ^^^ y)]
  have e1:QDY (IntKind.bits .u32) (x.toNat:Int)=x.toBitVec:=Qa0 x.toBitVec
  have e2:QDY (IntKind.bits .u32) (y.toNat:Int)=y.toBitVec:=Qa0 y.toBitVec
  rw[e1,e2,Qcz]
  exact (QhP (x ^^^ y)).symm
@[go_sem] theorem QAH (x:UInt32) (n:Int) (h0:0≤n) (h1:n<4294967296):binOp .xor T (W32 x) (.int .u32 n)=pure (W32 (x ^^^ QDg n.toNat)):=by
  rw[Qbc n h0 h1]
  exact Qqx T x _
@[go_sem] theorem Qtz (y:UInt32) (n:Int) (h0:0≤n) (h1:n<4294967296):binOp .xor T (.int .u32 n) (W32 y)=pure (W32 (QDg n.toNat ^^^ y)):=by
  rw[Qbc n h0 h1]
  exact Qqx T _ y
@[go_sem] theorem QmJ (x y:UInt32):binOp .eql T (W32 x) (W32 y)=pure (.bool (x==y)):=by
  show binOp .eql T (.int .u32 x.toNat) (.int .u32 y.toNat)=_
  rw[binOp_eql]
  have:((x.toNat:Int)==(y.toNat:Int))=(x==y):=by
   rw[QDw,beq_iff_eq,beq_iff_eq,←QE2]
   omega
  simp only[this]
@[go_sem] theorem QAM (x:UInt32) (n:Int) (h0:0≤n) (h1:n<4294967296):binOp .eql T (W32 x) (.int .u32 n)=pure (.bool (x==(QDg n.toNat))):=by
  rw[Qbc n h0 h1]
  exact QmJ T x _
@[go_sem] theorem QAm (y:UInt32) (n:Int) (h0:0≤n) (h1:n<4294967296):binOp .eql T (.int .u32 n) (W32 y)=pure (.bool ((QDg n.toNat)==y)):=by
  rw[Qbc n h0 h1]
  exact QmJ T _ y
@[go_sem] theorem Qq2 (x y:UInt32):binOp .neq T (W32 x) (W32 y)=pure (.bool (x != y)):=by
  show binOp .neq T (.int .u32 x.toNat) (.int .u32 y.toNat)=_
  rw[binOp_neq]
  have:((x.toNat:Int)==(y.toNat:Int))=(x==y):=by
   rw[QDw,beq_iff_eq,beq_iff_eq,←QE2]
   omega
  simp only[bne,this]
@[go_sem] theorem QAT (x:UInt32) (n:Int) (h0:0≤n) (h1:n<4294967296):binOp .neq T (W32 x) (.int .u32 n)=pure (.bool (x != (QDg n.toNat))):=by
  rw[Qbc n h0 h1]
  exact Qq2 T x _
@[go_sem] theorem QA2 (y:UInt32) (n:Int) (h0:0≤n) (h1:n<4294967296):binOp .neq T (.int .u32 n) (W32 y)=pure (.bool ((QDg n.toNat) != y)):=by
  rw[Qbc n h0 h1]
  exact Qq2 T _ y
@[go_sem] theorem Qtf (x y:UInt32):binOp .lss T (W32 x) (W32 y)=pure (.bool (decide (x<y))):=by
  show binOp .lss T (.int .u32 x.toNat) (.int .u32 y.toNat)=_
  rw[binOp_lss]
  congr 2
  rw[decide_eq_decide,UInt32.lt_iff_toNat_lt]
  omega
@[go_sem] theorem QBg (x:UInt32) (n:Int) (h0:0≤n) (h1:n<4294967296):binOp .lss T (W32 x) (.int .u32 n)=pure (.bool (decide (x<(QDg n.toNat)))):=by
  rw[Qbc n h0 h1]
  exact Qtf T x _
@[go_sem] theorem QA3 (y:UInt32) (n:Int) (h0:0≤n) (h1:n<4294967296):binOp .lss T (.int .u32 n) (W32 y)=pure (.bool (decide ((QDg n.toNat)<y))):=by
  rw[Qbc n h0 h1]
  exact Qtf T _ y
@[go_sem] theorem Qs4 (x y:UInt32):binOp .leq T (W32 x) (W32 y)=pure (.bool (decide (x≤y))):=by
  show binOp .leq T (.int .u32 x.toNat) (.int .u32 y.toNat)=_
  rw[binOp_leq]
  congr 2
  rw[decide_eq_decide,UInt32.le_iff_toNat_le]
  omega
@[go_sem] theorem QAK (x:UInt32) (n:Int) (h0:0≤n) (h1:n<4294967296):binOp .leq T (W32 x) (.int .u32 n)=pure (.bool (decide (x≤(QDg n.toNat)))):=by
  rw[Qbc n h0 h1]
  exact Qs4 T x _
@[go_sem] theorem QAg (y:UInt32) (n:Int) (h0:0≤n) (h1:n<4294967296):binOp .leq T (.int .u32 n) (W32 y)=pure (.bool (decide ((QDg n.toNat)≤y))):=by
  rw[Qbc n h0 h1]
  exact Qs4 T _ y
@[go_sem] theorem QqM (x y:UInt32):binOp .gtr T (W32 x) (W32 y)=pure (.bool (decide (y<x))):=by
  show binOp .gtr T (.int .u32 x.toNat) (.int .u32 y.toNat)=_
  rw[binOp_gtr]
  congr 2
  rw[decide_eq_decide,UInt32.lt_iff_toNat_lt]
  omega
@[go_sem] theorem QBf (x:UInt32) (n:Int) (h0:0≤n) (h1:n<4294967296):binOp .gtr T (W32 x) (.int .u32 n)=pure (.bool (decide ((QDg n.toNat)<x))):=by
  rw[Qbc n h0 h1]
  exact QqM T x _
@[go_sem] theorem QAx (y:UInt32) (n:Int) (h0:0≤n) (h1:n<4294967296):binOp .gtr T (.int .u32 n) (W32 y)=pure (.bool (decide (y<(QDg n.toNat)))):=by
  rw[Qbc n h0 h1]
  exact QqM T _ y
@[go_sem] theorem Qti (x y:UInt32):binOp .geq T (W32 x) (W32 y)=pure (.bool (decide (y≤x))):=by
  show binOp .geq T (.int .u32 x.toNat) (.int .u32 y.toNat)=_
  rw[binOp_geq]
  congr 2
  rw[decide_eq_decide,UInt32.le_iff_toNat_le]
  omega
@[go_sem] theorem QAn (x:UInt32) (n:Int) (h0:0≤n) (h1:n<4294967296):binOp .geq T (W32 x) (.int .u32 n)=pure (.bool (decide ((QDg n.toNat)≤x))):=by
  rw[Qbc n h0 h1]
  exact Qti T x _
@[go_sem] theorem QAs (y:UInt32) (n:Int) (h0:0≤n) (h1:n<4294967296):binOp .geq T (.int .u32 n) (W32 y)=pure (.bool (decide (y≤(QDg n.toNat)))):=by
  rw[Qbc n h0 h1]
  exact Qti T _ y
@[go_sem] theorem QqQ (x y:UInt32) (hy: ¬((y).toNat:Int)=0):binOp .quo T (W32 x) (W32 y)=pure (W32 (x/y)):=by
  show binOp .quo T (.int .u32 x.toNat) (.int .u32 y.toNat)=_
  rw[binOp_quo]
  simp only[Op.intDiv]
  rw[if_neg hy,Qdu (x:=x/y)]
  rw[Qcz,UInt32.toNat_div,Int.tdiv_eq_ediv_of_nonneg (by omega),←Int.natCast_ediv]
  have h1:=Nat.div_le_self x.toNat y.toNat
  have h2:=x.toNat_lt
  generalize x.toNat/y.toNat=q at *
  omega
@[go_sem] theorem QA0 (x:UInt32) (n:Int) (h0:0≤n) (h1:n<4294967296) (hy: ¬((QDg n.toNat).toNat:Int)=0):binOp .quo T (W32 x) (.int .u32 n)=pure (W32 (x/(QDg n.toNat))):=by
  rw[Qbc n h0 h1]
  exact QqQ T x _ hy
@[go_sem] theorem QAi (y:UInt32) (n:Int) (h0:0≤n) (h1:n<4294967296) (hy: ¬((y).toNat:Int)=0):binOp .quo T (.int .u32 n) (W32 y)=pure (W32 (QDg n.toNat/y)):=by
  rw[Qbc n h0 h1]
  exact QqQ T _ y hy
@[go_sem] theorem Qro (x y:UInt32) (hy: ¬((y).toNat:Int)=0):binOp .rem T (W32 x) (W32 y)=pure (W32 (x%y)):=by
  show binOp .rem T (.int .u32 x.toNat) (.int .u32 y.toNat)=_
  rw[binOp_rem]
  simp only[Op.intDiv]
  rw[if_neg hy,Qdu (x:=x%y)]
  rw[UInt32.toNat_mod,Int.tmod_eq_emod_of_nonneg (by omega),←Int.natCast_emod]
@[go_sem] theorem Qou (x:UInt32) (n:Int) (h0:0≤n) (h1:n<4294967296) (hy: ¬((QDg n.toNat).toNat:Int)=0):binOp .rem T (W32 x) (.int .u32 n)=pure (W32 (x%(QDg n.toNat))):=by
  rw[Qbc n h0 h1]
  exact Qro T x _ hy
@[go_sem] theorem QAP (y:UInt32) (n:Int) (h0:0≤n) (h1:n<4294967296) (hy: ¬((y).toNat:Int)=0):binOp .rem T (.int .u32 n) (W32 y)=pure (W32 (QDg n.toNat%y)):=by
  rw[Qbc n h0 h1]
  exact Qro T _ y hy
theorem Qot (x:UInt32) (yk:IntKind) (n:Int) (h0:0≤n):binOp .shl T (W32 x) (.int yk n)=pure (W32 (QfA x n.toNat)):=by
 show binOp .shl T (.int .u32 x.toNat) (.int yk n)=_
 rw[binOp_shl]
 simp only[Op.shift]
 rw[if_neg (by omega),Qdu (x:=QfA x n.toNat)]
 have e:(QfA x n.toNat).toNat=(x.toNat*2^n.toNat)%4294967296:=by
  show (x.toBitVec <<< n.toNat).toNat=_
  rw[QEC,QEM]
  rfl
 rw[Qcz,e]
 have hb:IntKind.bits .u32=32:=rfl
 rw[hb]
 rcases Nat.le_total n.toNat 32 with h|h
 ·rw[QDK h]
  have:((2:Int)^n.toNat)=((2^n.toNat:Nat):Int):=by simp
  rw[this,←QEp]
  omega
 ·rw[Nat.min_eq_right h]
  obtain⟨d,hd⟩:=Nat.exists_eq_add_of_le h
  have e1:x.toNat*2^n.toNat=4294967296*(x.toNat*2^d):=by rw[hd,QD2];show x.toNat*(4294967296*2^d)=_;rw[QEP]
  rw[e1,Nat.mul_mod_right]
  omega
@[go_sem] theorem QB7 (x:UInt32) (yk:IntKind) (n:Int):binOp .shl T (W32 x) (.int yk n)=if n<0 then runtimePanic (.error "negative shift amount") else pure (W32 (QfA x n.toNat)):=by
  by_cases h:n<0
  ·rw[if_pos h]
   show binOp .shl T (.int .u32 x.toNat) (.int yk n)=_
   rw[binOp_shl]
   simp only[Op.shift]
   rw[if_pos h]
  ·rw[if_neg h]
   exact Qot T x yk n (by omega)
theorem Qke (x:UInt32) (yk:IntKind) (n:Int) (h0:0≤n):binOp .shr T (W32 x) (.int yk n)=pure (W32 (QcD x n.toNat)):=by
 show binOp .shr T (.int .u32 x.toNat) (.int yk n)=_
 rw[binOp_shr]
 simp only[Op.shift]
 rw[if_neg (by omega),Qdu (x:=QcD x n.toNat)]
 have e:(QcD x n.toNat).toNat=x.toNat/2^n.toNat:=by
  show (x.toBitVec >>> n.toNat).toNat=_
  rw[QDz,QDv]
  rfl
 rw[e]
 have hb:IntKind.bits .u32=32:=rfl
 rw[hb]
 have hx:=x.toNat_lt
 have ep:∀m:Nat,((2:Int)^m)=((2^m:Nat):Int):=fun m=>by simp
 rw[ep,Int.fdiv_eq_ediv_of_nonneg _ (Int.natCast_nonneg _),←Int.natCast_ediv]
 rcases Nat.le_total n.toNat 32 with h|h
 ·rw[QDK h]
 ·rw[Nat.min_eq_right h]
  have h1:x.toNat/2^32=0:=QDy (by simpa using hx)
  have h2:x.toNat/2^n.toNat=0:=QDy (QCX (by simpa using hx) (QDH (by omega) h))
  rw[h1,h2]
@[go_sem] theorem QCm (x:UInt32) (yk:IntKind) (n:Int):binOp .shr T (W32 x) (.int yk n)=if n<0 then runtimePanic (.error "negative shift amount") else pure (W32 (QcD x n.toNat)):=by
  by_cases h:n<0
  ·rw[if_pos h]
   show binOp .shr T (.int .u32 x.toNat) (.int yk n)=_
   rw[binOp_shr]
   simp only[Op.shift]
   rw[if_pos h]
  ·rw[if_neg h]
   exact Qke T x yk n (by omega)
@[go_sem] theorem QAl (x:UInt32) (n:UInt64):binOp .shl T (W32 x) (W64 n)=pure (W32 (QfA x (cnt n))):=Qot T x .u64 n.toNat (by omega)
@[go_sem] theorem QBe (x:UInt32) (n:UInt64):binOp .shr T (W32 x) (W64 n)=pure (W32 (QcD x (cnt n))):=Qke T x .u64 n.toNat (by omega)
@[go_sem] theorem QtR (x:UInt32):Op.unary .xor (W32 x)=pure (W32 (~~~x)):=by
  have h:binOp .xor 0 (.int .u32 (4294967295:Int)) (W32 x)=pure (W32 (~~~x)):=by
   rw[Qtz 0 x 4294967295 (by omega) (by omega)]
   congr 2
  exact h
end
def QiU (x:UInt64) (n:Nat):UInt64:=⟨x.toBitVec <<< n⟩
def QeY (x:UInt64) (n:Nat):UInt64:=⟨x.toBitVec >>> n⟩
theorem QdE {x:UInt64} {n:Int} (h:(x.toNat:Int)=n):Value.int .u64 n=W64 x:=by rw[W64,h]
section
variable (T:TypeId) (ox oy:Operand)
@[go_sem] theorem Qym (op:BinOp) (x y:UInt64):eqGuard op T ox oy (W64 x) (W64 y)=pure ():=Qa2 ..
@[go_sem] theorem Qww (op:BinOp) (x:UInt64) (k:IntKind) (y:Int):eqGuard op T ox oy (W64 x) (.int k y)=pure ():=Qa2 ..
@[go_sem] theorem Qwm (op:BinOp) (x:UInt64) (k:IntKind) (y:Int):eqGuard op T ox oy (.int k y) (W64 x)=pure ():=Qa2 ..
theorem Qa9 (n:Int) (h0:0≤n) (h1:n<18446744073709551616):Value.int .u64 n=W64 (QC7 n.toNat):=by
 apply QdE
 rw[QDb]
 omega
theorem Qmj (n:Int):(QDC n).toNat=(n%18446744073709551616).toNat:=by
 simp[QDC,QDb]
 try omega
theorem Qfi (n:Nat):QDC (n:Int)=QC7 n:=by
 apply QEz.1
 rw[Qmj,QDb]
 omega
theorem Qvg (n:Int):Value.int .u64 (IntKind.wrap .u64 n)=W64 (QDC n):=by
 apply QdE
 rw[QcA]
 have:=Qmj n
 omega
@[go_sem] theorem Qns (x y:UInt64):binOp .add T (W64 x) (W64 y)=pure (W64 (x+y)):=by
  show binOp .add T (.int .u64 x.toNat) (.int .u64 y.toNat)=_
  rw[binOp_add]
  simp only[Op.intArith]
  rw[QdE (x:=x+y)]
  rw[QcA,UInt64.toNat_add]
  omega
@[go_sem] theorem QAV (x:UInt64) (n:Int) (h0:0≤n) (h1:n<18446744073709551616):binOp .add T (W64 x) (.int .u64 n)=pure (W64 (x+QC7 n.toNat)):=by
  rw[Qa9 n h0 h1]
  exact Qns T x _
@[go_sem] theorem QAj (y:UInt64) (n:Int) (h0:0≤n) (h1:n<18446744073709551616):binOp .add T (.int .u64 n) (W64 y)=pure (W64 (QC7 n.toNat+y)):=by
  rw[Qa9 n h0 h1]
  exact Qns T _ y
@[go_sem] theorem QnK (x y:UInt64):binOp .sub T (W64 x) (W64 y)=pure (W64 (x-y)):=by
  show binOp .sub T (.int .u64 x.toNat) (.int .u64 y.toNat)=_
  rw[binOp_sub]
  simp only[Op.intArith]
  rw[QdE (x:=x-y)]
  rw[QcA,UInt64.toNat_sub]
  have:=y.toNat_lt
  omega
@[go_sem] theorem QAQ (x:UInt64) (n:Int) (h0:0≤n) (h1:n<18446744073709551616):binOp .sub T (W64 x) (.int .u64 n)=pure (W64 (x-QC7 n.toNat)):=by
  rw[Qa9 n h0 h1]
  exact QnK T x _
@[go_sem] theorem QA7 (y:UInt64) (n:Int) (h0:0≤n) (h1:n<18446744073709551616):binOp .sub T (.int .u64 n) (W64 y)=pure (W64 (QC7 n.toNat-y)):=by
  rw[Qa9 n h0 h1]
  exact QnK T _ y
@[go_sem] theorem QmU (x y:UInt64):binOp .mul T (W64 x) (W64 y)=pure (W64 (x*y)):=by
  show binOp .mul T (.int .u64 x.toNat) (.int .u64 y.toNat)=_
  rw[binOp_mul]
  simp only[Op.intArith]
  rw[QdE (x:=x*y)]
  rw[QcA,UInt64.toNat_mul,←QEp]
  omega
@[go_sem] theorem QAD (x:UInt64) (n:Int) (h0:0≤n) (h1:n<18446744073709551616):binOp .mul T (W64 x) (.int .u64 n)=pure (W64 (x*QC7 n.toNat)):=by
  rw[Qa9 n h0 h1]
  exact QmU T x _
@[go_sem] theorem QBh (y:UInt64) (n:Int) (h0:0≤n) (h1:n<18446744073709551616):binOp .mul T (.int .u64 n) (W64 y)=pure (W64 (QC7 n.toNat*y)):=by
  rw[Qa9 n h0 h1]
  exact QmU T _ y
@[go_sem] theorem Qsl (x y:UInt64):binOp .and T (W64 x) (W64 y)=pure (W64 (x &&& y)):=by
  show binOp .and T (.int .u64 x.toNat) (.int .u64 y.toNat)=_
  rw[binOp_and]
  simp only[Op.intBits]
  rw[QdE (x:=x &&& y)]
  have e1:QDY (IntKind.bits .u64) (x.toNat:Int)=x.toBitVec:=Qa0 x.toBitVec
  have e2:QDY (IntKind.bits .u64) (y.toNat:Int)=y.toBitVec:=Qa0 y.toBitVec
  rw[e1,e2,QcA]
  exact (Qif (x &&& y)).symm
@[go_sem] theorem QkL (x:UInt64) (n:Int) (h0:0≤n) (h1:n<18446744073709551616):binOp .and T (W64 x) (.int .u64 n)=pure (W64 (x &&& QC7 n.toNat)):=by
  rw[Qa9 n h0 h1]
  exact Qsl T x _
@[go_sem] theorem QAr (y:UInt64) (n:Int) (h0:0≤n) (h1:n<18446744073709551616):binOp .and T (.int .u64 n) (W64 y)=pure (W64 (QC7 n.toNat &&& y)):=by
  rw[Qa9 n h0 h1]
  exact Qsl T _ y
@[go_sem] theorem QsU (x y:UInt64):binOp .or T (W64 x) (W64 y)=pure (W64 (x ||| y)):=by
  show binOp .or T (.int .u64 x.toNat) (.int .u64 y.toNat)=_
  rw[binOp_or]
  simp only[Op.intBits]
  rw[QdE (x:=x ||| y)]
  have e1:QDY (IntKind.bits .u64) (x.toNat:Int)=x.toBitVec:=Qa0 x.toBitVec
  have e2:QDY (IntKind.bits .u64) (y.toNat:Int)=y.toBitVec:=Qa0 y.toBitVec
  rw[e1,e2,QcA]
  exact (Qif (x ||| y)).symm
@[go_sem] theorem QBm (x:UInt64) (n:Int) (h0:0≤n) (h1:n<18446744073709551616):binOp .or T (W64 x) (.int .u64 n)=pure (W64 (x ||| QC7 n.toNat)):=by
  rw[Qa9 n h0 h1]
  exact QsU T x _
@[go_sem] theorem QCd (y:UInt64) (n:Int) (h0:0≤n) (h1:n<18446744073709551616):binOp .or T (.int .u64 n) (W64 y)=pure (W64 (QC7 n.toNat ||| y)):=by
  rw[Qa9 n h0 h1]
  exact QsU T _ y
@[go_sem] theorem QqJ (x y:UInt64):binOp .xor T (W64 x) (W64 y)=pure (W64 (x ^^^ y)):=by
  show binOp .xor T (.int .u64 x.toNat) (.int .u64 y.toNat)=_
  rw[binOp_xor]
  simp only[Op.intBits]
  rw[QdE (x:=x ^^^ y)]
  have e1:QDY (IntKind.bits .u64) (x.toNat:Int)=x.toBitVec:=Qa0 x.toBitVec
  have e2:QDY (IntKind.bits .u64) (y.toNat:Int)=y.toBitVec:=Qa0 y.toBitVec
  rw[e1,e2,QcA]
  exact (Qif (x ^^^ y)).symm
@[go_sem] theorem QBi (x:UInt64) (n:Int) (h0:0≤n) (h1:n<18446744073709551616):binOp .xor T (W64 x) (.int .u64 n)=pure (W64 (x ^^^ QC7 n.toNat)):=by
  rw[Qa9 n h0 h1]
  exact QqJ T x _
@[go_sem] theorem Quu (y:UInt64) (n:Int) (h0:0≤n) (h1:n<18446744073709551616):binOp .xor T (.int .u64 n) (W64 y)=pure (W64 (QC7 n.toNat ^^^ y)):=by
  rw[Qa9 n h0 h1]
  exact QqJ T _ y
@[go_sem] theorem Qnn (x y:UInt64):binOp .eql T (W64 x) (W64 y)=pure (.bool (x==y)):=by
  show binOp .eql T (.int .u64 x.toNat) (.int .u64 y.toNat)=_
  rw[binOp_eql]
  have:((x.toNat:Int)==(y.toNat:Int))=(x==y):=by
   rw[QDw,beq_iff_eq,beq_iff_eq,←QEz]
   omega
  simp only[this]
@[go_sem] theorem QAJ (x:UInt64) (n:Int) (h0:0≤n) (h1:n<18446744073709551616):binOp .eql T (W64 x) (.int .u64 n)=pure (.bool (x==(QC7 n.toNat))):=by
  rw[Qa9 n h0 h1]
  exact Qnn T x _
@[go_sem] theorem QAF (y:UInt64) (n:Int) (h0:0≤n) (h1:n<18446744073709551616):binOp .eql T (.int .u64 n) (W64 y)=pure (.bool ((QC7 n.toNat)==y)):=by
  rw[Qa9 n h0 h1]
  exact Qnn T _ y
@[go_sem] theorem QsM (x y:UInt64):binOp .neq T (W64 x) (W64 y)=pure (.bool (x != y)):=by
  show binOp .neq T (.int .u64 x.toNat) (.int .u64 y.toNat)=_
  rw[binOp_neq]
  have:((x.toNat:Int)==(y.toNat:Int))=(x==y):=by
   rw[QDw,beq_iff_eq,beq_iff_eq,←QEz]
   omega
  simp only[bne,this]
@[go_sem] theorem QAt (x:UInt64) (n:Int) (h0:0≤n) (h1:n<18446744073709551616):binOp .neq T (W64 x) (.int .u64 n)=pure (.bool (x != (QC7 n.toNat))):=by
  rw[Qa9 n h0 h1]
  exact QsM T x _
@[go_sem] theorem QAG (y:UInt64) (n:Int) (h0:0≤n) (h1:n<18446744073709551616):binOp .neq T (.int .u64 n) (W64 y)=pure (.bool ((QC7 n.toNat) != y)):=by
  rw[Qa9 n h0 h1]
  exact QsM T _ y
@[go_sem] theorem QmK (x y:UInt64):binOp .lss T (W64 x) (W64 y)=pure (.bool (decide (x<y))):=by
  show binOp .lss T (.int .u64 x.toNat) (.int .u64 y.toNat)=_
  rw[binOp_lss]
  congr 2
  rw[decide_eq_decide,UInt64.lt_iff_toNat_lt]
  omega
@[go_sem] theorem QAN (x:UInt64) (n:Int) (h0:0≤n) (h1:n<18446744073709551616):binOp .lss T (W64 x) (.int .u64 n)=pure (.bool (decide (x<(QC7 n.toNat)))):=by
  rw[Qa9 n h0 h1]
  exact QmK T x _
@[go_sem] theorem QAw (y:UInt64) (n:Int) (h0:0≤n) (h1:n<18446744073709551616):binOp .lss T (.int .u64 n) (W64 y)=pure (.bool (decide ((QC7 n.toNat)<y))):=by
  rw[Qa9 n h0 h1]
  exact QmK T _ y
@[go_sem] theorem Qta (x y:UInt64):binOp .leq T (W64 x) (W64 y)=pure (.bool (decide (x≤y))):=by
  show binOp .leq T (.int .u64 x.toNat) (.int .u64 y.toNat)=_
  rw[binOp_leq]
  congr 2
  rw[decide_eq_decide,UInt64.le_iff_toNat_le]
  omega
@[go_sem] theorem QA9 (x:UInt64) (n:Int) (h0:0≤n) (h1:n<18446744073709551616):binOp .leq T (W64 x) (.int .u64 n)=pure (.bool (decide (x≤(QC7 n.toNat)))):=by
  rw[Qa9 n h0 h1]
  exact Qta T x _
@[go_sem] theorem QAo (y:UInt64) (n:Int) (h0:0≤n) (h1:n<18446744073709551616):binOp .leq T (.int .u64 n) (W64 y)=pure (.bool (decide ((QC7 n.toNat)≤y))):=by
  rw[Qa9 n h0 h1]
  exact Qta T _ y
@[go_sem] theorem QnQ (x y:UInt64):binOp .gtr T (W64 x) (W64 y)=pure (.bool (decide (y<x))):=by
  show binOp .gtr T (.int .u64 x.toNat) (.int .u64 y.toNat)=_
  rw[binOp_gtr]
  congr 2
  rw[decide_eq_decide,UInt64.lt_iff_toNat_lt]
  omega
@[go_sem] theorem QAk (x:UInt64) (n:Int) (h0:0≤n) (h1:n<18446744073709551616):binOp .gtr T (W64 x) (.int .u64 n)=pure (.bool (decide ((QC7 n.toNat)<x))):=by
  rw[Qa9 n h0 h1]
  exact QnQ T x _
@[go_sem] theorem QAv (y:UInt64) (n:Int) (h0:0≤n) (h1:n<18446744073709551616):binOp .gtr T (.int .u64 n) (W64 y)=pure (.bool (decide (y<(QC7 n.toNat)))):=by
  rw[Qa9 n h0 h1]
  exact QnQ T _ y
@[go_sem] theorem QrL (x y:UInt64):binOp .geq T (W64 x) (W64 y)=pure (.bool (decide (y≤x))):=by
  show binOp .geq T (.int .u64 x.toNat) (.int .u64 y.toNat)=_
  rw[binOp_geq]
  congr 2
  rw[decide_eq_decide,UInt64.le_iff_toNat_le]
  omega
@[go_sem] theorem QAq (x:UInt64) (n:Int) (h0:0≤n) (h1:n<18446744073709551616):binOp .geq T (W64 x) (.int .u64 n)=pure (.bool (decide ((QC7 n.toNat)≤x))):=by
  rw[Qa9 n h0 h1]
  exact QrL T x _
@[go_sem] theorem QBc (y:UInt64) (n:Int) (h0:0≤n) (h1:n<18446744073709551616):binOp .geq T (.int .u64 n) (W64 y)=pure (.bool (decide (y≤(QC7 n.toNat)))):=by
  rw[Qa9 n h0 h1]
  exact QrL T _ y
@[go_sem] theorem Qto (x y:UInt64) (hy: ¬((y).toNat:Int)=0):binOp .quo T (W64 x) (W64 y)=pure (W64 (x/y)):=by
  show binOp .quo T (.int .u64 x.toNat) (.int .u64 y.toNat)=_
  rw[binOp_quo]
  simp only[Op.intDiv]
  rw[if_neg hy,QdE (x:=x/y)]
  rw[QcA,UInt64.toNat_div,Int.tdiv_eq_ediv_of_nonneg (by omega),←Int.natCast_ediv]
  have h1:=Nat.div_le_self x.toNat y.toNat
  have h2:=x.toNat_lt
  generalize x.toNat/y.toNat=q at *
  omega
@[go_sem] theorem QAY (x:UInt64) (n:Int) (h0:0≤n) (h1:n<18446744073709551616) (hy: ¬((QC7 n.toNat).toNat:Int)=0):binOp .quo T (W64 x) (.int .u64 n)=pure (W64 (x/(QC7 n.toNat))):=by
  rw[Qa9 n h0 h1]
  exact Qto T x _ hy
@[go_sem] theorem QAR (y:UInt64) (n:Int) (h0:0≤n) (h1:n<18446744073709551616) (hy: ¬((y).toNat:Int)=0):binOp .quo T (.int .u64 n) (W64 y)=pure (W64 (QC7 n.toNat/y)):=by
  rw[Qa9 n h0 h1]
  exact Qto T _ y hy
@[go_sem] theorem Qsw (x y:UInt64) (hy: ¬((y).toNat:Int)=0):binOp .rem T (W64 x) (W64 y)=pure (W64 (x%y)):=by
  show binOp .rem T (.int .u64 x.toNat) (.int .u64 y.toNat)=_
  rw[binOp_rem]
  simp only[Op.intDiv]
  rw[if_neg hy,QdE (x:=x%y)]
  rw[UInt64.toNat_mod,Int.tmod_eq_emod_of_nonneg (by omega),←Int.natCast_emod]
@[go_sem] theorem Qt6 (x:UInt64) (n:Int) (h0:0≤n) (h1:n<18446744073709551616) (hy: ¬((QC7 n.toNat).toNat:Int)=0):binOp .rem T (W64 x) (.int .u64 n)=pure (W64 (x%(QC7 n.toNat))):=by
  rw[Qa9 n h0 h1]
  exact Qsw T x _ hy
@[go_sem] theorem QBb (y:UInt64) (n:Int) (h0:0≤n) (h1:n<18446744073709551616) (hy: ¬((y).toNat:Int)=0):binOp .rem T (.int .u64 n) (W64 y)=pure (W64 (QC7 n.toNat%y)):=by
  rw[Qa9 n h0 h1]
  exact Qsw T _ y hy
theorem Qkh (x:UInt64) (yk:IntKind) (n:Int) (h0:0≤n):binOp .shl T (W64 x) (.int yk n)=pure (W64 (QiU x n.toNat)):=by
 show binOp .shl T (.int .u64 x.toNat) (.int yk n)=_
 rw[binOp_shl]
 simp only[Op.shift]
 rw[if_neg (by omega),QdE (x:=QiU x n.toNat)]
 have e:(QiU x n.toNat).toNat=(x.toNat*2^n.toNat)%18446744073709551616:=by
  show (x.toBitVec <<< n.toNat).toNat=_
  rw[QEC,QEM]
  rfl
 rw[QcA,e]
 have hb:IntKind.bits .u64=64:=rfl
 rw[hb]
 rcases Nat.le_total n.toNat 64 with h|h
 ·rw[QDK h]
  have:((2:Int)^n.toNat)=((2^n.toNat:Nat):Int):=by simp
  rw[this,←QEp]
  omega
 ·rw[Nat.min_eq_right h]
  obtain⟨d,hd⟩:=Nat.exists_eq_add_of_le h
  have e1:x.toNat*2^n.toNat=18446744073709551616*(x.toNat*2^d):=by rw[hd,QD2];show x.toNat*(18446744073709551616*2^d)=_;rw[QEP]
  rw[e1,Nat.mul_mod_right]
  omega
@[go_sem] theorem QCs (x:UInt64) (yk:IntKind) (n:Int):binOp .shl T (W64 x) (.int yk n)=if n<0 then runtimePanic (.error "negative shift amount") else pure (W64 (QiU x n.toNat)):=by
  by_cases h:n<0
  ·rw[if_pos h]
   show binOp .shl T (.int .u64 x.toNat) (.int yk n)=_
   rw[binOp_shl]
   simp only[Op.shift]
   rw[if_pos h]
  ·rw[if_neg h]
   exact Qkh T x yk n (by omega)
theorem QkB (x:UInt64) (yk:IntKind) (n:Int) (h0:0≤n):binOp .shr T (W64 x) (.int yk n)=pure (W64 (QeY x n.toNat)):=by
 show binOp .shr T (.int .u64 x.toNat) (.int yk n)=_
 rw[binOp_shr]
 simp only[Op.shift]
 rw[if_neg (by omega),QdE (x:=QeY x n.toNat)]
 have e:(QeY x n.toNat).toNat=x.toNat/2^n.toNat:=by
  show (x.toBitVec >>> n.toNat).toNat=_
  rw[QDz,QDv]
  rfl
 rw[e]
 have hb:IntKind.bits .u64=64:=rfl
 rw[hb]
 have hx:=x.toNat_lt
 have ep:∀m:Nat,((2:Int)^m)=((2^m:Nat):Int):=fun m=>by simp
 rw[ep,Int.fdiv_eq_ediv_of_nonneg _ (Int.natCast_nonneg _),←Int.natCast_ediv]
 rcases Nat.le_total n.toNat 64 with h|h
 ·rw[QDK h]
 ·rw[Nat.min_eq_right h]
  have h1:x.toNat/2^64=0:=QDy (by simpa using hx)
  have h2:x.toNat/2^n.toNat=0:=QDy (QCX (by simpa using hx) (QDH (by omega) h))
  rw[h1,h2]
@[go_sem] theorem QBL (x:UInt64) (yk:IntKind) (n:Int):binOp .shr T (W64 x) (.int yk n)=if n<0 then runtimePanic (.error "negative shift amount") else pure (W64 (QeY x n.toNat)):=by
  by_cases h:n<0
  ·rw[if_pos h]
   show binOp .shr T (.int .u64 x.toNat) (.int yk n)=_
   rw[binOp_shr]
   simp only[Op.shift]
   rw[if_pos h]
  ·rw[if_neg h]
   exact QkB T x yk n (by omega)
@[go_sem] theorem QAS (x:UInt64) (n:UInt64):binOp .shl T (W64 x) (W64 n)=pure (W64 (QiU x (cnt n))):=Qkh T x .u64 n.toNat (by omega)
@[go_sem] theorem QAB (x:UInt64) (n:UInt64):binOp .shr T (W64 x) (W64 n)=pure (W64 (QeY x (cnt n))):=QkB T x .u64 n.toNat (by omega)
@[go_sem] theorem QuI (x:UInt64):Op.unary .xor (W64 x)=pure (W64 (~~~x)):=by
  have h:binOp .xor 0 (.int .u64 (18446744073709551615:Int)) (W64 x)=pure (W64 (~~~x)):=by
   rw[Quu 0 x 18446744073709551615 (by omega) (by omega)]
   congr 2
  exact h
end
section
variable {P:Program} (w:World) (S D:TypeId)
@[go_sem] theorem Qpc (x:UInt8) (hs:(P.underlying S).isSome=true) (hd:P.underlying D=some (.int .u8)):(convert S D (W8 x)).run P w= .ok (W8 x) w:=by
  have h:=run_convert_int (P:=P) (w:=w) S D .u8 x.toNat hs (by unfold Program.intKind;rw[hd])
  have e:P.intKind D= .u8:=by unfold Program.intKind;rw[hd]
  rw[e]at h
  refine h.trans ?_
  rw[Qf3 (x:=x)]
  rw[Qdg]
  have:=x.toNat_lt
  skip
  omega
@[go_sem] theorem QoY (x:UInt8) (hs:(P.underlying S).isSome=true) (hd:P.underlying D=some (.int .u32)):(convert S D (W8 x)).run P w= .ok (W32 x.toUInt32) w:=by
  have h:=run_convert_int (P:=P) (w:=w) S D .u8 x.toNat hs (by unfold Program.intKind;rw[hd])
  have e:P.intKind D= .u32:=by unfold Program.intKind;rw[hd]
  rw[e]at h
  refine h.trans ?_
  rw[Qdu (x:=x.toUInt32)]
  rw[Qcz]
  have:=x.toNat_lt
  rw[UInt8.toNat_toUInt32]
  omega
@[go_sem] theorem Qos (x:UInt8) (hs:(P.underlying S).isSome=true) (hd:P.underlying D=some (.int .u64)):(convert S D (W8 x)).run P w= .ok (W64 x.toUInt64) w:=by
  have h:=run_convert_int (P:=P) (w:=w) S D .u8 x.toNat hs (by unfold Program.intKind;rw[hd])
  have e:P.intKind D= .u64:=by unfold Program.intKind;rw[hd]
  rw[e]at h
  refine h.trans ?_
  rw[QdE (x:=x.toUInt64)]
  rw[QcA]
  have:=x.toNat_lt
  rw[UInt8.toNat_toUInt64]
  omega
@[go_sem] theorem Qoo (x:UInt8) (hs:(P.underlying S).isSome=true) (hd:P.underlying D=some (.int .i64)):(convert S D (W8 x)).run P w= .ok (.int .i64 (IntKind.i64.wrap x.toNat)) w:=by
  have h:=run_convert_int (P:=P) (w:=w) S D .u8 x.toNat hs (by unfold Program.intKind;rw[hd])
  have e:P.intKind D= .i64:=by unfold Program.intKind;rw[hd]
  rw[e]at h
  exact h
@[go_sem] theorem Qgi (x:UInt32) (hs:(P.underlying S).isSome=true) (hd:P.underlying D=some (.int .u8)):(convert S D (W32 x)).run P w= .ok (W8 x.toUInt8) w:=by
  have h:=run_convert_int (P:=P) (w:=w) S D .u32 x.toNat hs (by unfold Program.intKind;rw[hd])
  have e:P.intKind D= .u8:=by unfold Program.intKind;rw[hd]
  rw[e]at h
  refine h.trans ?_
  rw[Qf3 (x:=x.toUInt8)]
  rw[Qdg]
  skip
  rw[UInt32.toNat_toUInt8]
  omega
@[go_sem] theorem Qm9 (x:UInt32) (hs:(P.underlying S).isSome=true) (hd:P.underlying D=some (.int .u32)):(convert S D (W32 x)).run P w= .ok (W32 x) w:=by
  have h:=run_convert_int (P:=P) (w:=w) S D .u32 x.toNat hs (by unfold Program.intKind;rw[hd])
  have e:P.intKind D= .u32:=by unfold Program.intKind;rw[hd]
  rw[e]at h
  refine h.trans ?_
  rw[Qdu (x:=x)]
  rw[Qcz]
  have:=x.toNat_lt
  skip
  omega
@[go_sem] theorem QfP (x:UInt32) (hs:(P.underlying S).isSome=true) (hd:P.underlying D=some (.int .u64)):(convert S D (W32 x)).run P w= .ok (W64 x.toUInt64) w:=by
  have h:=run_convert_int (P:=P) (w:=w) S D .u32 x.toNat hs (by unfold Program.intKind;rw[hd])
  have e:P.intKind D= .u64:=by unfold Program.intKind;rw[hd]
  rw[e]at h
  refine h.trans ?_
  rw[QdE (x:=x.toUInt64)]
  rw[QcA]
  have:=x.toNat_lt
  rw[UInt32.toNat_toUInt64]
  omega
@[go_sem] theorem Qm8 (x:UInt32) (hs:(P.underlying S).isSome=true) (hd:P.underlying D=some (.int .i64)):(convert S D (W32 x)).run P w= .ok (.int .i64 (IntKind.i64.wrap x.toNat)) w:=by
  have h:=run_convert_int (P:=P) (w:=w) S D .u32 x.toNat hs (by unfold Program.intKind;rw[hd])
  have e:P.intKind D= .i64:=by unfold Program.intKind;rw[hd]
  rw[e]at h
  exact h
@[go_sem] theorem Qf6 (x:UInt64) (hs:(P.underlying S).isSome=true) (hd:P.underlying D=some (.int .u8)):(convert S D (W64 x)).run P w= .ok (W8 x.toUInt8) w:=by
  have h:=run_convert_int (P:=P) (w:=w) S D .u64 x.toNat hs (by unfold Program.intKind;rw[hd])
  have e:P.intKind D= .u8:=by unfold Program.intKind;rw[hd]
  rw[e]at h
  refine h.trans ?_
  rw[Qf3 (x:=x.toUInt8)]
  rw[Qdg]
  skip
  rw[QEN]
  omega
@[go_sem] theorem Qf1 (x:UInt64) (hs:(P.underlying S).isSome=true) (hd:P.underlying D=some (.int .u32)):(convert S D (W64 x)).run P w= .ok (W32 x.toUInt32) w:=by
  have h:=run_convert_int (P:=P) (w:=w) S D .u64 x.toNat hs (by unfold Program.intKind;rw[hd])
  have e:P.intKind D= .u32:=by unfold Program.intKind;rw[hd]
  rw[e]at h
  refine h.trans ?_
  rw[Qdu (x:=x.toUInt32)]
  rw[Qcz]
  skip
  rw[UInt64.toNat_toUInt32]
  omega
@[go_sem] theorem QnR (x:UInt64) (hs:(P.underlying S).isSome=true) (hd:P.underlying D=some (.int .u64)):(convert S D (W64 x)).run P w= .ok (W64 x) w:=by
  have h:=run_convert_int (P:=P) (w:=w) S D .u64 x.toNat hs (by unfold Program.intKind;rw[hd])
  have e:P.intKind D= .u64:=by unfold Program.intKind;rw[hd]
  rw[e]at h
  refine h.trans ?_
  rw[QdE (x:=x)]
  rw[QcA]
  have:=x.toNat_lt
  skip
  omega
@[go_sem] theorem Qnm (x:UInt64) (hs:(P.underlying S).isSome=true) (hd:P.underlying D=some (.int .i64)):(convert S D (W64 x)).run P w= .ok (.int .i64 (IntKind.i64.wrap x.toNat)) w:=by
  have h:=run_convert_int (P:=P) (w:=w) S D .u64 x.toNat hs (by unfold Program.intKind;rw[hd])
  have e:P.intKind D= .i64:=by unfold Program.intKind;rw[hd]
  rw[e]at h
  exact h
end
@[go_sem] theorem Qwq (P:Program) (w:World) (a:Addr) (m:Mode) (x:UInt8):(store a (W8 x) m).run P w=stored P w a (W8 x) m:=run_store P w a _ m rfl
@[go_sem ↓] theorem QAI (x:UInt8):(W8 x).cells= #[W8 x]:=rfl
@[go_sem] theorem Qub (P:Program) (w:World) (a:Addr) (m:Mode) (x:UInt32):(store a (W32 x) m).run P w=stored P w a (W32 x) m:=run_store P w a _ m rfl
@[go_sem ↓] theorem QzG (x:UInt32):(W32 x).cells= #[W32 x]:=rfl
@[go_sem] theorem QtV (P:Program) (w:World) (a:Addr) (m:Mode) (x:UInt64):(store a (W64 x) m).run P w=stored P w a (W64 x) m:=run_store P w a _ m rfl
@[go_sem ↓] theorem QzK (x:UInt64):(W64 x).cells= #[W64 x]:=rfl
attribute [go_sem] QxC Quv Qvg
end Go.Proofs.YticcbmhcgmhohaaGreat
