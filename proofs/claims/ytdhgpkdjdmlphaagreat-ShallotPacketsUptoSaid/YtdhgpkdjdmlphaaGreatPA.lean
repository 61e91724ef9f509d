/-
  Lemmas for the last text of this claim (part 1 of 20).
-/
import Derived.ArgAppend
import Derived.BigQuiet
import Derived.BigRegion
import Derived.ChangeOld
import Derived.Deep.RegionWith
import Derived.DeepKeys4
import Derived.JoinedCond
import Derived.LaidMore
import Derived.Laws.BytesArg
import Derived.Laws.CopyOwn
import Derived.Laws.Externs
import Derived.Laws.IdiomStrings
import Derived.Laws.Tables
import Derived.Lib.AppendStr
import Derived.Lib.AppendZerosOnto
import Derived.Lib.Mul64
import Derived.Lib.SlBytesConst
import Derived.LoopN
import Derived.Maps.OwnSet
import Derived.OpenShut
import Derived.OrdersHeld
import Derived.ProofKit
import Derived.Shelf.Spec.BitsCarry
import Derived.ShutString
import Derived.Test.YtdhgpkdjdmlphaaGreatProg
import Derived.Test.YtdhgpkdjdmlphaaGreatRows
import Derived.WalkKit
import Derived.WalkLawsBesides
import Derived.WalkSpells
open Array renaming getElem?_eq_none → QzQ, replicate → QAi
open Bool renaming and_eq_true → QyJ, not_eq_true' → Qz2
open List renaming getElem?_eq_getElem → Qyq, mem_cons → QyA, append_nil → QyZ, range → Qzc, all_eq_true → Qzk, all_cons → QzV, singleton_append → Qz5, mem_range → QAe
open Nat renaming lt_or_ge → Qzs
open Option renaming toList_some → Qyr, map_some → QzW, getD_some → QAq
set_option linter.all false
namespace Go.Proofs.YtdhgpkdjdmlphaaGreat
open Go.RowKit
theorem hid {p:Prop} (h:p):Hid p:=h
structure More where
 blocks:Array Obj
 drawn:Nat
instance:Nonempty More:=⟨⟨#[],0⟩⟩
def grow (w:World) (x:More):World:={ w with heap:=w.heap++x.blocks,drawn:=x.drawn }
def QlE (w:World) (x:More) (a:Addr):Option Value:=if a.block<w.heap.size then none else (grow w x).cell? a
theorem QhR (w:World) (x:More) (k:Nat) (h:k<w.heap.size):(grow w x).heap[k]?=w.heap[k]?:=by
 show (w.heap++x.blocks)[k]?=_
 rw[Array.getElem?_append_left h]
@[go_sem] theorem Quu (w:World) (x:More) (a:Addr):(grow w x).cell? a=(w.cell? a).or (QlE w x a):=by
  unfold QlE
  by_cases h:a.block<w.heap.size
  ·rw[if_pos h,Option.or_none]
   exact World.cell?_of_block (QhR w x _ h)
  ·rw[if_neg h]
   have:w.cell? a=none:=by
    unfold World.cell?
    rw[QzQ (by omega)]
   rw[this,Option.none_or]
def Later (w:World):World→Prop:=fun w'=>∃x,w'=grow w x
theorem Later.refl (w:World):Later w w:=⟨⟨#[],w.drawn⟩,by simp[grow]⟩
theorem Later.of_below {w w':World} (h:Below w.heap.size w w'):Later w w':=by
 refine⟨⟨w'.heap.extract w.heap.size w'.heap.size,w'.drawn⟩,?_⟩
 have hh:w'.heap=w.heap++w'.heap.extract w.heap.size w'.heap.size:=by
  apply Array.ext_getElem?
  intro i
  rcases Qzs i w.heap.size with hi|hi
  ·rw[Array.getElem?_append_left hi,h.block i hi]
  ·rw[Array.getElem?_append_right hi]
   have hs:=h.size
   rcases Qzs i w'.heap.size with h2|h2
   ·have e1:i-w.heap.size<(w'.heap.extract w.heap.size w'.heap.size).size:=by simp;omega
    rw[Array.getElem?_eq_getElem h2,Array.getElem?_eq_getElem e1,Array.getElem_extract]
    congr 2
    omega
   ·rw[QzQ h2,QzQ (by simp;omega)]
 cases w'
 cases w
 have h1:=h.os
 have h2:=h.tape
 have h3:=h.output
 simp only at h1 h2 h3 hh
 simp only[grow,h1,h2,h3]
 congr 1
theorem Later.below {w w':World} (h:Later w w'):Below w.heap.size w w':=by
 obtain⟨x,rfl⟩:=h
 exact⟨rfl,rfl,rfl,by show w.heap.size≤(w.heap++x.blocks).size;simp,fun k hk=>QhR w x k hk⟩
theorem Later.trans {a b c:World} (h:Later a b) (k:Later b c):Later a c:=by
 have h':=h.below
 have k':=k.below
 exact .of_below (h'.trans (k'.mono h'.size))
theorem Later.drew {a b:World} (h:Later a b):Later a b.drew:=h.trans (.of_below (Below.refl _ _).drew)
def calm (o:Oper):Bool:=match o.op with
 | .move _| .assign _| .pick .. | .nilCheck _| .binOp .. | .unOp .. | .convert .. | .fieldAddr .. | .field .. | .indexAddr .. | .index .. | .extract .. | .slice .. | .load .. | .build .. | .makeInterface .. | .typeAssert .. | .lookup .. =>true
 | .call { callee:=.builtin .len,.. }| .call { callee:=.builtin .cap,.. }| .call { callee:=.builtin .min,.. }| .call { callee:=.builtin .max,.. }=>true
 | _=>false
theorem QbZ {e:Result Value} {n:Next} {w:World} (h:e.andThen (fun a w'=>Result.ok (Next.value a) w')= .ok n w):∃u,n= .value u:=by
 cases e with
 | ok a w'=>simp[Result.andThen]at h;exact⟨a,h.1.symm⟩
 | halt x w'=>simp[Result.andThen]at h
theorem QfD {P:Program} {o:Oper} {ρ:Operand→Value} {w w':World} {n:Next} (h:calm o=true) (hr:(execOp ρ o).run P w= .ok n w'):∃u,n= .value u:=by
 obtain⟨dst,op,type,pos,after,guard⟩:=o
 cases op
 case call c=>
  obtain⟨callee,args,argTypes⟩:=c
  cases callee
  case builtin b=>
   cases b
   case len=>simp only[execOp,resolve,Sem.run_bind,Sem.run_pure,Result.andThen_ok,invoke,builtin]at hr;exact QbZ hr
   case cap=>simp only[execOp,resolve,Sem.run_bind,Sem.run_pure,Result.andThen_ok,invoke,builtin]at hr;exact QbZ hr
   case min=>simp only[execOp,resolve,Sem.run_bind,Sem.run_pure,Result.andThen_ok,invoke,builtin]at hr;exact QbZ hr
   case max=>simp only[execOp,resolve,Sem.run_bind,Sem.run_pure,Result.andThen_ok,invoke,builtin]at hr;exact QbZ hr
   all_goals (simp only[calm]at h;cases h)
  all_goals (simp only[calm]at h;cases h)
 case nilCheck x=>
  simp only[execOp]at hr
  generalize ρ x=r at hr
  cases r
  case func fn first captured=>
   cases fn
   case method name=>
    simp only[]at hr
    cases hf:first[0]? with
    | none=>rw[hf]at hr;simp only[Sem.run_pure]at hr;cases hr;exact⟨_,rfl⟩
    | some q=>
      rw[hf]at hr
      cases q
      case iface t u=>
       simp only[Sem.run_bind]at hr
       revert hr
       generalize Sem.run P program w=r1
       cases r1 with
       | halt x w1=>simp[Result.andThen]
       | ok p w1=>
         simp only[Result.andThen_ok]
         generalize Sem.run P (nilAhead (p.types.size+Made.depth) t u name) w1=r2
         cases r2 with
         | halt x w2=>simp[Result.andThen]
         | ok b w2=>
           simp only[Result.andThen_ok]
           by_cases hb:(b != some false)=true
           ·rw[if_pos hb]
            simp[unsupported]
           ·rw[if_neg hb]
            simp only[Sem.run_pure]
            intro hr
            cases hr
            exact⟨_,rfl⟩
      case nilIface=>simp[runtimePanic]at hr
      all_goals (simp only[Sem.run_pure]at hr;cases hr;exact⟨_,rfl⟩)
   all_goals (simp only[Sem.run_pure]at hr;cases hr;exact⟨_,rfl⟩)
  case pointer a=>
   cases a
   case none=>simp[runtimePanic]at hr
   case some a=>simp only[Sem.run_pure]at hr;cases hr;exact⟨_,rfl⟩
  case nilIface=>simp[runtimePanic]at hr
  case nilFunc=>simp[runtimePanic]at hr
  all_goals (simp only[Sem.run_pure]at hr;cases hr;exact⟨_,rfl⟩)
 case move x=>simp only[execOp,Sem.run_pure]at hr;cases hr;exact⟨_,rfl⟩
 case assign x=>simp only[execOp,Sem.run_pure]at hr;cases hr;exact⟨_,rfl⟩
 case pick c a b=>
  simp only[execOp,Sem.run_bind,Sem.run_pure]at hr
  revert hr
  generalize Sem.run P (asBool (ρ c)) w=r
  cases r with
  | halt x w1=>simp[Result.andThen]
  | ok b w1=>simp only[Result.andThen_ok];intro hr;cases hr;exact⟨_,rfl⟩
 all_goals first
  | (simp only[calm]at h;cases h;done)
  | (simp only[execOp,Sem.run_bind,Sem.run_pure]at hr;exact QbZ hr)
section
variable {P:Program} {ops:Array Oper} {Q:Exit→Act→World→Prop} {w0:World}
theorem Qcd {o:Oper} {a:Act} {K:Act→Prop} (hc:calm o=true) (hw:Region.wanted o (yielded ops a.tmps)=true) (h:o.quiet P a (Later w0) K):
 ∃v,YieldsIf P ops (Later w0) o v a∧K (a.put o.dst v):=by
 obtain⟨v,h1,h2⟩:=h
 refine⟨v,.inl ⟨hw,fun w hl=>?_⟩,h2⟩
 have h3:=h1 w hl
 unfold Oper.quietAt at h3
 cases hr:(execOp a.eval o).run P w with
 | halt x w'=>rw[hr]at h3;exact absurd h3 (by simp[Oper.quietUpon])
 | ok n w'=>
   obtain⟨u,rfl⟩:=QfD hc hr
   rw[hr]at h3
   obtain⟨rfl,rfl⟩:=h3
   rfl
def QcB (P:Program) (ops:Array Oper) (Q:Exit→Act→World→Prop) (tl:Nat→Bool):Nat→Array Bool→Act→World→Prop
 | 0,listed,a,w=>Region.ready .any ops listed=[]∧Q .normal a w
 | fuel+1,listed,a,w=>
   (Region.ready .any ops listed=[]→Q .normal a w)∧
   ∀i∈Region.ready .any ops listed,wpOp P ops Q i (fun a' w'=>(tl i=false→Later w w')∧QcB P ops Q tl fuel (listed.setIfInBounds i true) a' w') a w
theorem Qen {tl:Nat→Bool}:∀(fuel:Nat) (listed:Array Bool) (a:Act) (w:World),QcB P ops Q tl fuel listed a w→wpAny P .any ops Q fuel listed a w
 | 0,_,_,_,h=>h
 | fuel+1,_,_,_,h=>⟨h.1,fun i hi=>wpOp_mono (fun a' w' h'=>Qen fuel _ a' w' h'.2) (h.2 i hi)⟩
def Closed (ops:Array Oper) (listed:Array Bool):Prop:=
 listed.size=ops.size∧∀j oj,ops[j]?=some oj→listed.getD j false=true→∀e∈oj.after,Region.binds .any e=true→listed.getD e.on false=true
theorem QbX {listed:Array Bool} {i:Nat} (h:listed.getD i true=false):listed.getD i false=false:=by
 rcases Qzs i listed.size with h'|h'
 ·simp[h']at h ⊢;exact h
 ·simp[QzQ h']at h
theorem Qf3 {listed:Array Bool} {i:Nat} (hi:i<listed.size) (h:listed.getD i false=false):listed.getD i true=false:=by
 simp[hi]at h ⊢;exact h
theorem Closed.set {listed:Array Bool} {i:Nat} (hc:Closed ops listed) (hi:i∈Region.ready .any ops listed):Closed ops (listed.setIfInBounds i true):=by
 obtain⟨_,oi,hoi,hall⟩:=mem_ready.1 hi
 refine⟨by simp[hc.1],fun j oj hj hl e he hb=>?_⟩
 by_cases hij:i=j
 ·subst hij
  have:oj=oi:=Option.some.inj (hj.symm.trans hoi)
  subst this
  exact getD_set_true (hall e he hb)
 ·rw[getD_set_ne false hij]at hl
  exact getD_set_true (hc.2 j oj hj hl e he hb)
def Qhn (ops:Array Oper) (j i:Nat):Bool:=
 match ops[j]? with
 | some oj=>oj.after.any fun e=>Region.binds .any e&&e.on==i
 | none=>false
theorem QfS {i j:Nat} (h:Qhn ops j i=true):∃oj,ops[j]?=some oj∧∃e∈oj.after,Region.binds .any e=true∧e.on=i:=by
 unfold Qhn at h
 split at h
 ·rename_i oj hj
  obtain⟨e,he,hb⟩:=Array.any_eq_true'.1 h
  simp only[QyJ,beq_iff_eq]at hb
  exact⟨oj,hj,e,he,hb.1,hb.2⟩
 ·cases h
def bare (o:Oper):Bool:=match o.op with
 | .move _| .assign _| .extract .. =>true
 | _=>false
def Qft (ops:Array Oper) (ts:List Nat) (i:Nat):Bool:=((ops[i]?).map bare).getD false&& !((Qzc ops.size).any fun j=>Qhn ops j i&& !(ts.tail.contains j))
def Qhs (ops:Array Oper) (ts:List Nat):Bool:=
 match ts with
 | []=>true
 | t :: r=>
   ((Qzc ops.size).all fun i=>ts.contains i||Qft ops (t :: r) i||(Qzc ops.size).any fun j=>(j==t||(!ts.contains j&& !Qft ops (t :: r) j&&decide (i<j)))&&Qhn ops j i) &&
   (List.zip (t :: r) r).all fun (p,q)=>Qhn ops q p
theorem Qht {t:Nat} {r:List Nat} (hB:Qhs ops (t :: r)=true) {listed:Array Bool} (hc:Closed ops listed):
 ∀(d i:Nat),ops.size-i=d→i<ops.size→(t :: r).contains i=false→Qft ops (t :: r) i=false→listed.getD i true=false→listed.getD t false=false∧t∉Region.ready .any ops listed:=by
 intro d
 induction d using Nat.strongRecOn with
 | _ d ih=>
   intro i hd hi hti hex hun
   simp only[Qhs,QyJ]at hB
   have h1:=Qzk.1 hB.1 i (QAe.2 hi)
   rw[hti,hex,Bool.false_or,Bool.false_or]at h1
   obtain⟨j,hj,hj2⟩:=List.any_eq_true.1 h1
   simp only[QyJ,Bool.or_eq_true,beq_iff_eq,decide_eq_true_eq,Qz2]at hj2
   obtain⟨hjt,hw⟩:=hj2
   obtain⟨oj,hoj,e,he,hb,hon⟩:=QfS hw
   have hjl:listed.getD j false=false:=by
    cases hl:listed.getD j false with
    | false=>rfl
    | true=>
      have h2:=hc.2 j oj hoj hl e he hb
      rw[hon,QbX hun]at h2
      cases h2
   rcases hjt with hjt|⟨⟨hjt,hje⟩,hij⟩
   ·subst hjt
    refine⟨hjl,fun hr=>?_⟩
    obtain⟨_,o',ho',hall⟩:=mem_ready.1 hr
    have:o'=oj:=Option.some.inj (ho'.symm.trans hoj)
    subst this
    have h2:=hall e he hb
    rw[hon,QbX hun]at h2
    cases h2
   ·have hjs:j<ops.size:=QAe.1 hj
    exact ih (ops.size-j) (by omega) j rfl hjs hjt hje (Qf3 (by rw[hc.1];exact hjs) hjl)
theorem QcZ {listed:Array Bool} (hc:Closed ops listed):∀(r:List Nat) (t:Nat),(List.zip (t :: r) r).all (fun (p,q)=>Qhn ops q p)=true→
 listed.getD t false=false→t∉Region.ready .any ops listed→∀k∈t :: r,k∉Region.ready .any ops listed
 | [],t,_,_,hr,k,hk=>by
   have:k=t:=by simpa using hk
   subst this
   exact hr
 | u :: r,t,hz,hl,hr,k,hk=>by
   simp only[List.zip_cons_cons,QzV,QyJ]at hz
   rcases QyA.1 hk with rfl|hk
   ·exact hr
   obtain⟨ou,hou,e,he,hb,hon⟩:=QfS hz.1
   refine QcZ hc r u hz.2 ?_ ?_ k hk
   ·cases hlu:listed.getD u false with
    | false=>rfl
    | true=>
      have h2:=hc.2 u ou hou hlu e he hb
      rw[hon,hl]at h2
      cases h2
   ·intro hru
    obtain⟨_,o',ho',hall⟩:=mem_ready.1 hru
    have:o'=ou:=Option.some.inj (ho'.symm.trans hou)
    subst this
    have h2:=hall e he hb
    rw[hon,hl]at h2
    cases h2
theorem Qql {o:Oper} {ρ:Operand→Value} {w w':World} {v:Value} (h:bare o=true) (hr:(execOp ρ o).run P w= .ok (.value v) w):(execOp ρ o).run P w'= .ok (.value v) w':=by
 obtain⟨dst,op,type,pos,after,guard⟩:=o
 cases op
 case move x=>simp only[execOp,Sem.run_pure]at hr ⊢;cases hr;rfl
 case assign x=>simp only[execOp,Sem.run_pure]at hr ⊢;cases hr;rfl
 case extract t i=>
  simp only[execOp,Sem.run_bind]at hr ⊢
  unfold Instr.extract at hr ⊢
  split at hr
  ·split at hr
   ·simp only[Sem.run_pure,Result.andThen_ok]at hr ⊢;cases hr;rfl
   ·simp[stuck]at hr
  ·simp[stuck]at hr
 all_goals (simp only[bare]at h;cases h)
theorem Qkz {o:Oper} {a:Act} {v:Value} (h:bare o=true) (hy:YieldsIf P ops (Later w0) o v a):YieldsIf P ops (fun _=>True) o v a:=
 hy.imp (fun ⟨hw,hv⟩=>⟨hw,fun _ _=>Qql h (hv w0 (Later.refl w0))⟩) id
theorem Qde {S:World→Prop} {tl:Nat→Bool} {i:Nat} {oi:Oper} {v:Value} (hi:ops[i]?=some oi) (hsel:∀(j:Nat) (o:Oper) cs b,ops[j]?=some o→o.op≠ .select cs b)
 (hQ:∀c a w,Q (.panic c) (a.put oi.dst v) w→Q (.panic c) a w)
 (hSt:∀(listed:Array Bool) (j:Nat) (w w':World),Closed ops listed→i∈Region.ready .any ops listed→j∈Region.ready .any ops listed→j≠i→(tl j=false→Later w w')→S w→S w'):
 ∀(fuel:Nat) (listed:Array Bool) (a:Act) (w:World),Closed ops listed→
  (∀ j oj,ops[j]?=some oj→j≠i→listed.getD j true=false→(∀ e∈oj.after,Region.binds .any e=true→e.on≠i)→oi.apart ops oj=true)→
  i∈Region.ready .any ops listed→YieldsIf P ops S oi v a→S w→
  QcB P ops Q tl fuel (listed.setIfInBounds i true) (a.put oi.dst v) w→QcB P ops Q tl (fuel+1) listed a w:=by
 intro fuel
 induction fuel with
 | zero=>
   intro listed a w _ _ hr hy hS H
   refine⟨fun h=>(by rw[h]at hr;cases hr),fun j hj=>?_⟩
   by_cases hji:j=i
   ·subst hji;exact hy.wpOp hi hS ⟨fun _=>Later.refl _,H⟩
   ·have:=ready_mono hj hji
    rw[H.1]at this
    cases this
 | succ fuel ih=>
   intro listed a w hcl hfree hr hy hS H
   refine⟨fun h=>(by rw[h]at hr;cases hr),fun j hj=>?_⟩
   by_cases hji:j=i
   ·subst hji;exact hy.wpOp hi hS ⟨fun _=>Later.refl _,H⟩
   ·have h1:=H.2 j (ready_mono hj hji)
    obtain⟨hjun,oj,hoj,hall⟩:=mem_ready.1 hj
    have hiun:=(mem_ready.1 hr).1
    have hnot:∀e∈oj.after,Region.binds .any e=true→e.on≠i:=fun e he hb heq=>by
     have h1:=hall e he hb
     rw[heq,QbX hiun]at h1
     cases h1
    have h2:=wpOp_putIf hoj (hfree j oj hoj hji hjun hnot) (fun cs b=>hsel i oi cs b hi) (fun cs b=>hsel j oj cs b hoj) hQ hy h1
    have hfree':∀k ok,ops[k]?=some ok→k≠i→(listed.setIfInBounds j true).getD k true=false→
     (∀ e∈ok.after,Region.binds .any e=true→e.on≠i)→oi.apart ops ok=true:=fun k ok hk hki hun hno=>by
     refine hfree k ok hk hki ?_ hno
     by_cases hjk:j=k
     ·subst hjk;exact hjun
     ·rw[getD_set_ne true hjk]at hun;exact hun
    refine wpOp_mono (fun a' w' h3=>⟨h3.2.1,ih (listed.setIfInBounds j true) a' w' (hcl.set hj) hfree' (ready_mono hr (Ne.symm hji)) h3.1 (hSt listed j w w' hcl hr hj hji h3.2.1 hS) ?_⟩) h2
    rw[Array.setIfInBounds_comm _ _ hji]
    exact h3.2.2
theorem Qtm {ts:List Nat} (hT:Qhs ops ts=true) {i:Nat} (hti:ts.contains i=false) (hex:Qft ops ts i=false) {listed:Array Bool} (hcl:Closed ops listed) (hr:i∈Region.ready .any ops listed)
 {j:Nat} (hj:j∈Region.ready .any ops listed):ts.contains j=false:=by
 obtain⟨hiun,oi,hi,_⟩:=mem_ready.1 hr
 cases htj:ts.contains j with
 | false=>rfl
 | true=>
   cases ts with
   | nil=>simp at htj
   | cons t r=>
     have hin:i<ops.size:=(Array.getElem?_eq_some_iff.1 hi).1
     obtain⟨h3,h4⟩:=Qht hT hcl _ i rfl hin hti hex hiun
     simp only[Qhs,QyJ]at hT
     exact absurd hj (QcZ hcl r t hT.2 h3 h4 j (by simpa using htj))
theorem Qd5 {ts:List Nat} (hT:Qhs ops ts=true) {i:Nat} {oi:Oper} {v:Value} (hi:ops[i]?=some oi) (hti:ts.contains i=false)
 (hsel:∀(j:Nat) (o:Oper) cs b,ops[j]?=some o→o.op≠ .select cs b) (hQ:∀c a w,Q (.panic c) (a.put oi.dst v) w→Q (.panic c) a w)
 {fuel:Nat} {listed:Array Bool} {a:Act} {w:World} (hcl:Closed ops listed)
 (hfree:∀j oj,ops[j]?=some oj→j≠i→listed.getD j true=false→(∀ e∈oj.after,Region.binds .any e=true→e.on≠i)→oi.apart ops oj=true)
 (hr:i∈Region.ready .any ops listed) (hy:YieldsIf P ops (Later w) oi v a)
 (H:QcB P ops Q ts.contains fuel (listed.setIfInBounds i true) (a.put oi.dst v) w):QcB P ops Q ts.contains (fuel+1) listed a w:=by
 cases hex:Qft ops ts i with
 | true=>
   have hb:bare oi=true:=by
    simp only[Qft,hi,QzW,QAq,QyJ]at hex
    exact hex.1
   exact Qde (S:=fun _=>True) hi hsel hQ (fun _ _ _ _ _ _ _ _ _ _=>trivial) fuel listed a w hcl hfree hr (Qkz hb hy) trivial H
 | false=>
   exact Qde (S:=Later w) hi hsel hQ (fun listed j w w' hcl hr hj _ h hS=>hS.trans (h (Qtm hT hti hex hcl hr hj))) fuel listed a w hcl hfree hr hy (Later.refl _) H
def QgB (P:Program) (ops:Array Oper) (Q:Exit→Act→World→Prop) (tl:Nat→Bool):List (Nat×Bool)→Act→World→Prop
 | [],a,w=>Q .normal a w
 | (i,true) :: r,a,w=>∃o,ops[i]?=some o∧if Region.wanted o (yielded ops a.tmps) then o.quiet P a (Later w) (fun a'=>QgB P ops Q tl r a' w) else QgB P ops Q tl r (a.put o.dst undef) w
 | (i,false) :: r,a,w=>wpOp P ops Q i (fun a' w'=>(tl i=false→Later w w')∧QgB P ops Q tl r a' w') a w
def seqB (ops:Array Oper) (tl:Nat→Bool):List (Nat×Bool)→Array Bool→Bool
 | [],listed=>(Region.ready .any ops listed).isEmpty
 | (i,true) :: r,listed=>(Region.ready .any ops listed).contains i&&Region.free .any ops listed i&&((ops[i]?).map calm).getD false&& !tl i&&seqB ops tl r (listed.setIfInBounds i true)
 | (i,false) :: r,listed=>decide (Region.ready .any ops listed=[i])&&seqB ops tl r (listed.setIfInBounds i true)
theorem QdE {ts:List Nat} (hT:Qhs ops ts=true) (hs:Region.noSelect ops=true) (hQ:∀c a d v w,Q (.panic c) (a.put d v) w→Q (.panic c) a w):
 ∀(l:List (Nat×Bool)) (listed:Array Bool) (a:Act) (w:World),Closed ops listed→seqB ops ts.contains l listed=true→
  QgB P ops Q ts.contains l a w→QcB P ops Q ts.contains l.length listed a w
 | [],_,_,_,_,hB,h=>⟨by simpa [seqB] using hB,h⟩
 | (i,true) :: r,listed,a,w,hcl,hB,h=>by
   simp only[seqB,QyJ]at hB
   obtain⟨⟨⟨⟨hr,hf⟩,hcm⟩,htl⟩,hB'⟩:=hB
   obtain⟨o,ho,h⟩:=h
   have hr':i∈Region.ready .any ops listed:=by simpa using hr
   have hcm':calm o=true:=by simpa [ho] using hcm
   have htl':ts.contains i=false:=by simpa using htl
   have next:∀v,YieldsIf P ops (Later w) o v a→QgB P ops Q ts.contains r (a.put o.dst v) w→QcB P ops Q ts.contains (r.length+1) listed a w:=fun v hy hn=>
    Qd5 hT ho htl' (Region.noSelect_spec hs) (fun c a w=>hQ c a _ _ w) hcl (Region.free_spec ho hf) hr' hy
     (QdE hT hs hQ r _ _ w (hcl.set hr') hB' hn)
   by_cases hw:Region.wanted o (yielded ops a.tmps)=true
   ·rw[if_pos hw]at h
    obtain⟨v,hy,hn⟩:=Qcd hcm' hw h
    exact next v hy hn
   ·rw[if_neg hw]at h
    exact next undef (.inr ⟨by simpa using hw,rfl⟩) h
 | (i,false) :: r,listed,a,w,hcl,hB,h=>by
   simp only[seqB,QyJ,decide_eq_true_eq]at hB
   obtain⟨hr,hB'⟩:=hB
   refine⟨fun h0=>(by rw[hr]at h0;cases h0),fun j hj=>?_⟩
   rw[hr]at hj
   obtain rfl:j=i:=by simpa using hj
   exact wpOp_mono (fun a' w' h3=>⟨h3.1,QdE hT hs hQ r _ a' w' (hcl.set (by rw[hr];simp)) hB' h3.2⟩) h
def pick:List Oper→List Nat→List Oper
 | _,[]=>[]
 | l,i :: r=>(l[i]?).toList++pick l r
theorem Qc6 {l:List Oper} {Qa:Act→Prop} {r:List (Nat×Bool)} {tl:Nat→Bool} {w:World} (hQa:∀a,Qa a→QgB P l.toArray Q tl r a w):∀(qs:List Nat),(qs.all fun i=>decide (i<l.length))=true→
 ∀a,wpQuiet P l.toArray (Later w) Qa (pick l qs) a→QgB P l.toArray Q tl (qs.map (·,true)++r) a w
 | [],_,a,h=>hQa a h
 | i :: qs,hb,a,h=>by
   simp only[QzV,QyJ,decide_eq_true_eq]at hb
   have hi:l[i]?=some (l[i]'hb.1):=Qyq hb.1
   refine⟨l[i]'hb.1,by simp[hb.1],?_⟩
   simp only[pick,hi,Qyr,Qz5,wpQuiet]at h
   by_cases hw:Region.wanted (l[i]'hb.1) (yielded l.toArray a.tmps)=true
   ·rw[if_pos hw]at h ⊢
    exact Oper.quiet_mono (fun a' h'=>Qc6 hQa qs hb.2 a' h') h
   ·rw[if_neg hw]at h ⊢
    exact Qc6 hQa qs hb.2 _ h
theorem Qdk {l:List Oper} {i:Nat} (hi:i<l.length) {K:Act→World→Prop} {a:Act} {w:World} (h:wpList P l.toArray (Exit.then K Q) (pick l [i]) a w):wpOp P l.toArray Q i K a w:=by
 have hi':l[i]?=some (l[i]'hi):=Qyq hi
 simp only[pick,hi',Qyr,QyZ,wpList]at h
 have hk:∀a w,wpList P l.toArray (Exit.then K Q) [] a w→K a w:=fun a w h=>h
 unfold wpOp
 simp only[List.getElem?_toArray,hi']
 by_cases hw:Region.wanted (l[i]'hi) (yielded l.toArray a.tmps)=true
 ·rw[if_pos hw]at h ⊢
  rcases h with h|⟨h1,h2⟩
  ·left
   have h:=Oper.wp_mono hk h
   unfold Oper.wp at h ⊢
   generalize (execOp a.eval (l[i]'hi)).run P w=r at h ⊢
   cases r with
   | ok n w'=>
     cases n<;>simp only[Oper.upon]at h ⊢ <;>first
      | exact h
      | exact Calls.mono h (fun e w'' he=>(by cases e<;>exact he))
   | halt x w'=>cases x<;>simp only[Oper.upon]at h ⊢;exact h
  ·exact .inr ⟨h1,h2⟩
 ·rw[if_neg hw]at h ⊢
  exact h
theorem QeM {l:List Oper} {tl:Nat→Bool}:∀(ts:List Nat),(ts.all fun i=>decide (i<l.length)&&tl i)=true→
 ∀a w,wpList P l.toArray Q (pick l ts) a w→QgB P l.toArray Q tl (ts.map (·,false)) a w
 | [],_,a,w,h=>h
 | i :: ts,hb,a,w,h=>by
   simp only[QzV,QyJ,decide_eq_true_eq]at hb
   have hi:l[i]?=some (l[i]'hb.1.1):=Qyq hb.1.1
   simp only[pick,hi,Qyr,Qz5,wpList]at h
   show wpOp P l.toArray Q i _ a w
   unfold wpOp
   simp only[List.getElem?_toArray,hi]
   have hn:∀a w1,wpList P l.toArray Q (pick l ts) a w1→(tl i=false→Later w w1)∧QgB P l.toArray Q tl (ts.map (·,false)) a w1:=fun a w1 h=>
    ⟨fun h0=>(by rw[hb.1.2]at h0;cases h0),QeM ts hb.2 a w1 h⟩
   by_cases hw:Region.wanted (l[i]'hb.1.1) (yielded l.toArray a.tmps)=true
   ·rw[if_pos hw]at h ⊢
    exact h.imp (Oper.wp_mono hn) id
   ·rw[if_neg hw]at h ⊢
    exact hn _ _ h
def Qaj (P:Program) (l:List Oper) (Q:Exit→Act→World→Prop) (qs ts:List Nat):List (List Nat×Nat)→Act→World→Prop
 | [],a,w=>wpQuiet P l.toArray (fun w'=>∃x,w'=grow w x) (fun a'=>wpList P l.toArray Q (pick l ts) a' w) (pick l qs) a
 | (q,i) :: r,a,w=>wpQuiet P l.toArray (fun w'=>∃x,w'=grow w x) (fun a'=>wpList P l.toArray (Exit.then (fun a'' w''=>Later w w''∧Qaj P l Q qs ts r a'' w'') Q) (pick l [i]) a' w) (pick l q) a
def flat (qs ts:List Nat):List (List Nat×Nat)→List (Nat×Bool)
 | []=>qs.map (·,true)++ts.map (·,false)
 | (q,i) :: r=>q.map (·,true)++(i,false) :: flat qs ts r
def Qsp (l:List Oper) (qs ts:List Nat) (segs:List (List Nat×Nat)):Bool:=
 Region.noSelect l.toArray&&Qhs l.toArray ts&&(qs.all fun i=>decide (i<l.length))&&(ts.all fun i=>decide (i<l.length)&&ts.contains i)&&(segs.all fun s=>decide (s.2<l.length)&&s.1.all fun i=>decide (i<l.length)) &&
 seqB l.toArray ts.contains (flat qs ts segs) (QAi l.length false)&&decide ((flat qs ts segs).length=l.length)
theorem QfY {l:List Oper} {qs ts:List Nat} (hq:(qs.all fun i=>decide (i<l.length))=true) (ht:(ts.all fun i=>decide (i<l.length)&&ts.contains i)=true):
 ∀(segs:List (List Nat×Nat)),(segs.all fun s=>decide (s.2<l.length)&&s.1.all fun i=>decide (i<l.length))=true→∀a w,Qaj P l Q qs ts segs a w→QgB P l.toArray Q ts.contains (flat qs ts segs) a w
 | [],_,a,w,h=>Qc6 (fun a h=>QeM ts ht a w h) qs hq a h
 | (q,i) :: r,hb,a,w,h=>by
   simp only[QzV,QyJ,decide_eq_true_eq]at hb
   refine Qc6 (fun a h=>?_) q hb.1.2 a h
   exact wpOp_mono (fun a' w' h'=>⟨fun _=>h'.1,QfY hq ht r hb.2 a' w' h'.2⟩) (Qdk hb.1.1 h)
theorem Qd6 (l:List Oper):Closed l.toArray (QAi l.length false):=⟨by simp,fun j oj hj hl=>by
 rcases Qzs j l.length with h|h
 ·simp[h]at hl
 ·simp[h]at hl⟩
theorem Qaf {id:Nat} {a:Act} {w:World} {l:List Oper} (segs:List (List Nat×Nat)) (qs ts:List Nat) (hm:P.follows .mixedOrders=true) (hB:Qsp l qs ts segs=true)
 (hQ:∀c a d v w,Q (.panic c) (a.put d v) w→Q (.panic c) a w) (h:Qaj P l Q qs ts segs a w.drew):(Code.region id l.toArray true).wp P Q a w:=by
 simp only[Qsp,QyJ,decide_eq_true_eq]at hB
 obtain⟨⟨⟨⟨⟨⟨hs,hT⟩,hq⟩,ht⟩,hsg⟩,hsq⟩,hlen⟩:=hB
 refine wp_region_any hm (Qen (tl:=ts.contains) _ _ _ _ ?_)
 have:=QdE hT hs hQ (flat qs ts segs) (QAi l.length false) a w.drew (Qd6 l) hsq (QfY hq ht segs hsg a _ h)
 rw[hlen]at this
 simpa using this
end
end Go.Proofs.YtdhgpkdjdmlphaaGreat
