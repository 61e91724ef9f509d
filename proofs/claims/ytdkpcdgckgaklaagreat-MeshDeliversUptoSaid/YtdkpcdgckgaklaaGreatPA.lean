/-
  Lemmas for the last text of this claim (part 1 of 20).
-/
import Derived.ArgAppend
import Derived.BigQuiet
import Derived.BigRegion
import Derived.ChangeOld
import Derived.Deep.RegionWith
import Derived.DeepKeys4
import Derived.JoinedCond
import Derived.LaidMore
import Derived.Laws.CopyOwn
import Derived.Laws.Externs
import Derived.Laws.IdiomStrings
import Derived.Laws.Tables
import Derived.Lib.AppendStr
import Derived.Lib.AppendZerosOnto
import Derived.Lib.Mul64
import Derived.Lib.SlBytesConst
import Derived.LoopN
import Derived.Maps.OwnSet
import Derived.OpenShut
import Derived.OrdersHeld
import Derived.ProofKit
import Derived.Shelf.Spec.BitsCarry
import Derived.ShutString
import Derived.Test.YtdkpcdgckgaklaaGreatProg
import Derived.Test.YtdkpcdgckgaklaaGreatRows
import Derived.WalkKit
import Derived.WalkLawsBesides
import Derived.WalkSpells
open Array renaming replicate → QDL, getElem?_eq_none → QDS
open BitVec renaming toNat_ushiftRight → QDs, ofInt → QDJ, toNat_shiftLeft → QDT
open Bool renaming and_eq_true → QCG, eq_iff_iff → QDb, not_eq_true' → QDE, or_eq_true → QEe, false_or → QEC
open Int renaming natCast_mul → QEo
open List renaming getElem?_eq_getElem → QCv, mem_cons → QCQ, append_nil → QC1, range → QC5, all_eq_true → QDa, all_cons → QDA, mem_range → QDC, singleton_append → QDW, any_eq_true → QEq
open Nat renaming lt_of_lt_of_le → QCM, div_eq_of_lt → QDd, pow_le_pow_right → QDh, shiftRight_eq_div_pow → QDo, lt_or_ge → QDq, min_eq_left → QDG, pow_add → QDO, shiftLeft_eq → QD1, mul_left_comm → QEw
open Option renaming toList_some → QCq, map_some → QD7, getD_some → QEr
open UInt32 renaming ofNat → QCW, toNat_ofNat' → QDX, toNat_inj → QEs
open UInt64 renaming ofNat → QCN, toNat_ofNat' → QCV, ofInt → QDy, toNat_inj → QD2, toNat_toUInt8 → QEv
open UInt8 renaming ofNat → QC2, ofInt → QC9, toNat_inj → QDl, toNat_ofNat' → QDM
set_option linter.all false
namespace Go.Proofs.YtdkpcdgckgaklaaGreat
open Go.RowKit
theorem hid {p:Prop} (h:p):Hid p:=h
structure More where
 blocks:Array Obj
 drawn:Nat
instance:Nonempty More:=⟨⟨#[],0⟩⟩
def grow (w:World) (x:More):World:={ w with heap:=w.heap++x.blocks,drawn:=x.drawn }
def Qoo (w:World) (x:More) (a:Addr):Option Value:=if a.block<w.heap.size then none else (grow w x).cell? a
theorem QjN (w:World) (x:More) (k:Nat) (h:k<w.heap.size):(grow w x).heap[k]?=w.heap[k]?:=by
 show (w.heap++x.blocks)[k]?=_
 rw[Array.getElem?_append_left h]
@[go_sem] theorem QyB (w:World) (x:More) (a:Addr):(grow w x).cell? a=(w.cell? a).or (Qoo w x a):=by
  unfold Qoo
  by_cases h:a.block<w.heap.size
  ·rw[if_pos h,Option.or_none]
   exact World.cell?_of_block (QjN w x _ h)
  ·rw[if_neg h]
   have:w.cell? a=none:=by
    unfold World.cell?
    rw[QDS (by omega)]
   rw[this,Option.none_or]
def Later (w:World):World→Prop:=fun w'=>∃x,w'=grow w x
theorem Later.refl (w:World):Later w w:=⟨⟨#[],w.drawn⟩,by simp[grow]⟩
theorem Later.of_below {w w':World} (h:Below w.heap.size w w'):Later w w':=by
 refine⟨⟨w'.heap.extract w.heap.size w'.heap.size,w'.drawn⟩,?_⟩
 have hh:w'.heap=w.heap++w'.heap.extract w.heap.size w'.heap.size:=by
  apply Array.ext_getElem?
  intro i
  rcases QDq i w.heap.size with hi|hi
  ·rw[Array.getElem?_append_left hi,h.block i hi]
  ·rw[Array.getElem?_append_right hi]
   have hs:=h.size
   rcases QDq i w'.heap.size with h2|h2
   ·have e1:i-w.heap.size<(w'.heap.extract w.heap.size w'.heap.size).size:=by simp;omega
    rw[Array.getElem?_eq_getElem h2,Array.getElem?_eq_getElem e1,Array.getElem_extract]
    congr 2
    omega
   ·rw[QDS h2,QDS (by simp;omega)]
 cases w'
 cases w
 have h1:=h.os
 have h2:=h.tape
 have h3:=h.output
 simp only at h1 h2 h3 hh
 simp only[grow,h1,h2,h3]
 congr 1
theorem Later.below {w w':World} (h:Later w w'):Below w.heap.size w w':=by
 obtain⟨x,rfl⟩:=h
 exact⟨rfl,rfl,rfl,by show w.heap.size≤(w.heap++x.blocks).size;simp,fun k hk=>QjN w x k hk⟩
theorem Later.trans {a b c:World} (h:Later a b) (k:Later b c):Later a c:=by
 have h':=h.below
 have k':=k.below
 exact .of_below (h'.trans (k'.mono h'.size))
theorem Later.drew {a b:World} (h:Later a b):Later a b.drew:=h.trans (.of_below (Below.refl _ _).drew)
def calm (o:Oper):Bool:=match o.op with
 | .move _| .assign _| .pick .. | .nilCheck _| .binOp .. | .unOp .. | .convert .. | .fieldAddr .. | .field .. | .indexAddr .. | .index .. | .extract .. | .slice .. | .load .. | .build .. | .makeInterface .. | .typeAssert .. | .lookup .. =>true
 | .call { callee:=.builtin .len,.. }| .call { callee:=.builtin .cap,.. }| .call { callee:=.builtin .min,.. }| .call { callee:=.builtin .max,.. }=>true
 | _=>false
theorem Qc0 {e:Result Value} {n:Next} {w:World} (h:e.andThen (fun a w'=>Result.ok (Next.value a) w')= .ok n w):∃u,n= .value u:=by
 cases e with
 | ok a w'=>simp[Result.andThen]at h;exact⟨a,h.1.symm⟩
 | halt x w'=>simp[Result.andThen]at h
theorem QfG {P:Program} {o:Oper} {ρ:Operand→Value} {w w':World} {n:Next} (h:calm o=true) (hr:(execOp ρ o).run P w= .ok n w'):∃u,n= .value u:=by
 obtain⟨dst,op,type,pos,after,guard⟩:=o
 cases op
 case call c=>
  obtain⟨callee,args,argTypes⟩:=c
  cases callee
  case builtin b=>
   cases b
   case len=>simp only[execOp,resolve,Sem.run_bind,Sem.run_pure,Result.andThen_ok,invoke,builtin]at hr;exact Qc0 hr
   case cap=>simp only[execOp,resolve,Sem.run_bind,Sem.run_pure,Result.andThen_ok,invoke,builtin]at hr;exact Qc0 hr
   case min=>simp only[execOp,resolve,Sem.run_bind,Sem.run_pure,Result.andThen_ok,invoke,builtin]at hr;exact Qc0 hr
   case max=>simp only[execOp,resolve,Sem.run_bind,Sem.run_pure,Result.andThen_ok,invoke,builtin]at hr;exact Qc0 hr
   all_goals (simp only[calm]at h;cases h)
  all_goals (simp only[calm]at h;cases h)
 case nilCheck x=>
  simp only[execOp]at hr
  generalize ρ x=r at hr
  cases r
  case func fn first captured=>
   cases fn
   case method name=>
    simp only[]at hr
    cases hf:first[0]? with
    | none=>rw[hf]at hr;simp only[Sem.run_pure]at hr;cases hr;exact⟨_,rfl⟩
    | some q=>
      rw[hf]at hr
      cases q
      case iface t u=>
       simp only[Sem.run_bind]at hr
       revert hr
       generalize Sem.run P program w=r1
       cases r1 with
       | halt x w1=>simp[Result.andThen]
       | ok p w1=>
         simp only[Result.andThen_ok]
         generalize Sem.run P (nilAhead (p.types.size+Made.depth) t u name) w1=r2
         cases r2 with
         | halt x w2=>simp[Result.andThen]
         | ok b w2=>
           simp only[Result.andThen_ok]
           by_cases hb:(b != some false)=true
           ·rw[if_pos hb]
            simp[unsupported]
           ·rw[if_neg hb]
            simp only[Sem.run_pure]
            intro hr
            cases hr
            exact⟨_,rfl⟩
      case nilIface=>simp[runtimePanic]at hr
      all_goals (simp only[Sem.run_pure]at hr;cases hr;exact⟨_,rfl⟩)
   all_goals (simp only[Sem.run_pure]at hr;cases hr;exact⟨_,rfl⟩)
  case pointer a=>
   cases a
   case none=>simp[runtimePanic]at hr
   case some a=>simp only[Sem.run_pure]at hr;cases hr;exact⟨_,rfl⟩
  case nilIface=>simp[runtimePanic]at hr
  case nilFunc=>simp[runtimePanic]at hr
  all_goals (simp only[Sem.run_pure]at hr;cases hr;exact⟨_,rfl⟩)
 case move x=>simp only[execOp,Sem.run_pure]at hr;cases hr;exact⟨_,rfl⟩
 case assign x=>simp only[execOp,Sem.run_pure]at hr;cases hr;exact⟨_,rfl⟩
 case pick c a b=>
  simp only[execOp,Sem.run_bind,Sem.run_pure]at hr
  revert hr
  generalize Sem.run P (asBool (ρ c)) w=r
  cases r with
  | halt x w1=>simp[Result.andThen]
  | ok b w1=>simp only[Result.andThen_ok];intro hr;cases hr;exact⟨_,rfl⟩
 all_goals first
  | (simp only[calm]at h;cases h;done)
  | (simp only[execOp,Sem.run_bind,Sem.run_pure]at hr;exact Qc0 hr)
section
variable {P:Program} {ops:Array Oper} {Q:Exit→Act→World→Prop} {w0:World}
theorem Qc8 {o:Oper} {a:Act} {K:Act→Prop} (hc:calm o=true) (hw:Region.wanted o (yielded ops a.tmps)=true) (h:o.quiet P a (Later w0) K):
 ∃v,YieldsIf P ops (Later w0) o v a∧K (a.put o.dst v):=by
 obtain⟨v,h1,h2⟩:=h
 refine⟨v,.inl ⟨hw,fun w hl=>?_⟩,h2⟩
 have h3:=h1 w hl
 unfold Oper.quietAt at h3
 cases hr:(execOp a.eval o).run P w with
 | halt x w'=>rw[hr]at h3;exact absurd h3 (by simp[Oper.quietUpon])
 | ok n w'=>
   obtain⟨u,rfl⟩:=QfG hc hr
   rw[hr]at h3
   obtain⟨rfl,rfl⟩:=h3
   rfl
def Qdw (P:Program) (ops:Array Oper) (Q:Exit→Act→World→Prop) (tl:Nat→Bool):Nat→Array Bool→Act→World→Prop
 | 0,listed,a,w=>Region.ready .any ops listed=[]∧Q .normal a w
 | fuel+1,listed,a,w=>
   (Region.ready .any ops listed=[]→Q .normal a w)∧
   ∀i∈Region.ready .any ops listed,wpOp P ops Q i (fun a' w'=>(tl i=false→Later w w')∧Qdw P ops Q tl fuel (listed.setIfInBounds i true) a' w') a w
theorem Qfy {tl:Nat→Bool}:∀(fuel:Nat) (listed:Array Bool) (a:Act) (w:World),Qdw P ops Q tl fuel listed a w→wpAny P .any ops Q fuel listed a w
 | 0,_,_,_,h=>h
 | fuel+1,_,_,_,h=>⟨h.1,fun i hi=>wpOp_mono (fun a' w' h'=>Qfy fuel _ a' w' h'.2) (h.2 i hi)⟩
def Closed (ops:Array Oper) (listed:Array Bool):Prop:=
 listed.size=ops.size∧∀j oj,ops[j]?=some oj→listed.getD j false=true→∀e∈oj.after,Region.binds .any e=true→listed.getD e.on false=true
theorem QbV {listed:Array Bool} {i:Nat} (h:listed.getD i true=false):listed.getD i false=false:=by
 rcases QDq i listed.size with h'|h'
 ·simp[h']at h ⊢;exact h
 ·simp[QDS h']at h
theorem Qhu {listed:Array Bool} {i:Nat} (hi:i<listed.size) (h:listed.getD i false=false):listed.getD i true=false:=by
 simp[hi]at h ⊢;exact h
theorem Closed.set {listed:Array Bool} {i:Nat} (hc:Closed ops listed) (hi:i∈Region.ready .any ops listed):Closed ops (listed.setIfInBounds i true):=by
 obtain⟨_,oi,hoi,hall⟩:=mem_ready.1 hi
 refine⟨by simp[hc.1],fun j oj hj hl e he hb=>?_⟩
 by_cases hij:i=j
 ·subst hij
  have:oj=oi:=Option.some.inj (hj.symm.trans hoi)
  subst this
  exact getD_set_true (hall e he hb)
 ·rw[getD_set_ne false hij]at hl
  exact getD_set_true (hc.2 j oj hj hl e he hb)
def Qhy (ops:Array Oper) (j i:Nat):Bool:=
 match ops[j]? with
 | some oj=>oj.after.any fun e=>Region.binds .any e&&e.on==i
 | none=>false
theorem Qfz {i j:Nat} (h:Qhy ops j i=true):∃oj,ops[j]?=some oj∧∃e∈oj.after,Region.binds .any e=true∧e.on=i:=by
 unfold Qhy at h
 split at h
 ·rename_i oj hj
  obtain⟨e,he,hb⟩:=Array.any_eq_true'.1 h
  simp only[QCG,beq_iff_eq]at hb
  exact⟨oj,hj,e,he,hb.1,hb.2⟩
 ·cases h
def bare (o:Oper):Bool:=match o.op with
 | .move _| .assign _| .extract .. =>true
 | _=>false
def Qhf (ops:Array Oper) (ts:List Nat) (i:Nat):Bool:=((ops[i]?).map bare).getD false&& !((QC5 ops.size).any fun j=>Qhy ops j i&& !(ts.tail.contains j))
def Qje (ops:Array Oper) (ts:List Nat):Bool:=
 match ts with
 | []=>true
 | t :: r=>
   ((QC5 ops.size).all fun i=>ts.contains i||Qhf ops (t :: r) i||(QC5 ops.size).any fun j=>(j==t||(!ts.contains j&& !Qhf ops (t :: r) j&&decide (i<j)))&&Qhy ops j i) &&
   (List.zip (t :: r) r).all fun (p,q)=>Qhy ops q p
theorem Qi2 {t:Nat} {r:List Nat} (hB:Qje ops (t :: r)=true) {listed:Array Bool} (hc:Closed ops listed):
 ∀(d i:Nat),ops.size-i=d→i<ops.size→(t :: r).contains i=false→Qhf ops (t :: r) i=false→listed.getD i true=false→listed.getD t false=false∧t∉Region.ready .any ops listed:=by
 intro d
 induction d using Nat.strongRecOn with
 | _ d ih=>
   intro i hd hi hti hex hun
   simp only[Qje,QCG]at hB
   have h1:=QDa.1 hB.1 i (QDC.2 hi)
   rw[hti,hex,QEC,QEC]at h1
   obtain⟨j,hj,hj2⟩:=QEq.1 h1
   simp only[QCG,QEe,beq_iff_eq,decide_eq_true_eq,QDE]at hj2
   obtain⟨hjt,hw⟩:=hj2
   obtain⟨oj,hoj,e,he,hb,hon⟩:=Qfz hw
   have hjl:listed.getD j false=false:=by
    cases hl:listed.getD j false with
    | false=>rfl
    | true=>
      have h2:=hc.2 j oj hoj hl e he hb
      rw[hon,QbV hun]at h2
      cases h2
   rcases hjt with hjt|⟨⟨hjt,hje⟩,hij⟩
   ·subst hjt
    refine⟨hjl,fun hr=>?_⟩
    obtain⟨_,o',ho',hall⟩:=mem_ready.1 hr
    have:o'=oj:=Option.some.inj (ho'.symm.trans hoj)
    subst this
    have h2:=hall e he hb
    rw[hon,QbV hun]at h2
    cases h2
   ·have hjs:j<ops.size:=QDC.1 hj
    exact ih (ops.size-j) (by omega) j rfl hjs hjt hje (Qhu (by rw[hc.1];exact hjs) hjl)
theorem QdR {listed:Array Bool} (hc:Closed ops listed):∀(r:List Nat) (t:Nat),(List.zip (t :: r) r).all (fun (p,q)=>Qhy ops q p)=true→
 listed.getD t false=false→t∉Region.ready .any ops listed→∀k∈t :: r,k∉Region.ready .any ops listed
 | [],t,_,_,hr,k,hk=>by
   have:k=t:=by simpa using hk
   subst this
   exact hr
 | u :: r,t,hz,hl,hr,k,hk=>by
   simp only[List.zip_cons_cons,QDA,QCG]at hz
   rcases QCQ.1 hk with rfl|hk
   ·exact hr
   obtain⟨ou,hou,e,he,hb,hon⟩:=Qfz hz.1
   refine QdR hc r u hz.2 ?_ ?_ k hk
   ·cases hlu:listed.getD u false with
    | false=>rfl
    | true=>
      have h2:=hc.2 u ou hou hlu e he hb
      rw[hon,hl]at h2
      cases h2
   ·intro hru
    obtain⟨_,o',ho',hall⟩:=mem_ready.1 hru
    have:o'=ou:=Option.some.inj (ho'.symm.trans hou)
    subst this
    have h2:=hall e he hb
    rw[hon,hl]at h2
    cases h2
theorem QtY {o:Oper} {ρ:Operand→Value} {w w':World} {v:Value} (h:bare o=true) (hr:(execOp ρ o).run P w= .ok (.value v) w):(execOp ρ o).run P w'= .ok (.value v) w':=by
 obtain⟨dst,op,type,pos,after,guard⟩:=o
 cases op
 case move x=>simp only[execOp,Sem.run_pure]at hr ⊢;cases hr;rfl
 case assign x=>simp only[execOp,Sem.run_pure]at hr ⊢;cases hr;rfl
 case extract t i=>
  simp only[execOp,Sem.run_bind]at hr ⊢
  unfold Instr.extract at hr ⊢
  split at hr
  ·split at hr
   ·simp only[Sem.run_pure,Result.andThen_ok]at hr ⊢;cases hr;rfl
   ·simp[stuck]at hr
  ·simp[stuck]at hr
 all_goals (simp only[bare]at h;cases h)
theorem Qny {o:Oper} {a:Act} {v:Value} (h:bare o=true) (hy:YieldsIf P ops (Later w0) o v a):YieldsIf P ops (fun _=>True) o v a:=
 hy.imp (fun ⟨hw,hv⟩=>⟨hw,fun _ _=>QtY h (hv w0 (Later.refl w0))⟩) id
theorem Qec {S:World→Prop} {tl:Nat→Bool} {i:Nat} {oi:Oper} {v:Value} (hi:ops[i]?=some oi) (hsel:∀(j:Nat) (o:Oper) cs b,ops[j]?=some o→o.op≠ .select cs b)
 (hQ:∀c a w,Q (.panic c) (a.put oi.dst v) w→Q (.panic c) a w)
 (hSt:∀(listed:Array Bool) (j:Nat) (w w':World),Closed ops listed→i∈Region.ready .any ops listed→j∈Region.ready .any ops listed→j≠i→(tl j=false→Later w w')→S w→S w'):
 ∀(fuel:Nat) (listed:Array Bool) (a:Act) (w:World),Closed ops listed→
  (∀ j oj,ops[j]?=some oj→j≠i→listed.getD j true=false→(∀ e∈oj.after,Region.binds .any e=true→e.on≠i)→oi.apart ops oj=true)→
  i∈Region.ready .any ops listed→YieldsIf P ops S oi v a→S w→
  Qdw P ops Q tl fuel (listed.setIfInBounds i true) (a.put oi.dst v) w→Qdw P ops Q tl (fuel+1) listed a w:=by
 intro fuel
 induction fuel with
 | zero=>
   intro listed a w _ _ hr hy hS H
   refine⟨fun h=>(by rw[h]at hr;cases hr),fun j hj=>?_⟩
   by_cases hji:j=i
   ·subst hji;exact hy.wpOp hi hS ⟨fun _=>Later.refl _,H⟩
   ·have:=ready_mono hj hji
    rw[H.1]at this
    cases this
 | succ fuel ih=>
   intro listed a w hcl hfree hr hy hS H
   refine⟨fun h=>(by rw[h]at hr;cases hr),fun j hj=>?_⟩
   by_cases hji:j=i
   ·subst hji;exact hy.wpOp hi hS ⟨fun _=>Later.refl _,H⟩
   ·have h1:=H.2 j (ready_mono hj hji)
    obtain⟨hjun,oj,hoj,hall⟩:=mem_ready.1 hj
    have hiun:=(mem_ready.1 hr).1
    have hnot:∀e∈oj.after,Region.binds .any e=true→e.on≠i:=fun e he hb heq=>by
     have h1:=hall e he hb
     rw[heq,QbV hiun]at h1
     cases h1
    have h2:=wpOp_putIf hoj (hfree j oj hoj hji hjun hnot) (fun cs b=>hsel i oi cs b hi) (fun cs b=>hsel j oj cs b hoj) hQ hy h1
    have hfree':∀k ok,ops[k]?=some ok→k≠i→(listed.setIfInBounds j true).getD k true=false→
     (∀ e∈ok.after,Region.binds .any e=true→e.on≠i)→oi.apart ops ok=true:=fun k ok hk hki hun hno=>by
     refine hfree k ok hk hki ?_ hno
     by_cases hjk:j=k
     ·subst hjk;exact hjun
     ·rw[getD_set_ne true hjk]at hun;exact hun
    refine wpOp_mono (fun a' w' h3=>⟨h3.2.1,ih (listed.setIfInBounds j true) a' w' (hcl.set hj) hfree' (ready_mono hr (Ne.symm hji)) h3.1 (hSt listed j w w' hcl hr hj hji h3.2.1 hS) ?_⟩) h2
    rw[Array.setIfInBounds_comm _ _ hji]
    exact h3.2.2
theorem QxB {ts:List Nat} (hT:Qje ops ts=true) {i:Nat} (hti:ts.contains i=false) (hex:Qhf ops ts i=false) {listed:Array Bool} (hcl:Closed ops listed) (hr:i∈Region.ready .any ops listed)
 {j:Nat} (hj:j∈Region.ready .any ops listed):ts.contains j=false:=by
 obtain⟨hiun,oi,hi,_⟩:=mem_ready.1 hr
 cases htj:ts.contains j with
 | false=>rfl
 | true=>
   cases ts with
   | nil=>simp at htj
   | cons t r=>
     have hin:i<ops.size:=(Array.getElem?_eq_some_iff.1 hi).1
     obtain⟨h3,h4⟩:=Qi2 hT hcl _ i rfl hin hti hex hiun
     simp only[Qje,QCG]at hT
     exact absurd hj (QdR hcl r t hT.2 h3 h4 j (by simpa using htj))
theorem Qfn {ts:List Nat} (hT:Qje ops ts=true) {i:Nat} {oi:Oper} {v:Value} (hi:ops[i]?=some oi) (hti:ts.contains i=false)
 (hsel:∀(j:Nat) (o:Oper) cs b,ops[j]?=some o→o.op≠ .select cs b) (hQ:∀c a w,Q (.panic c) (a.put oi.dst v) w→Q (.panic c) a w)
 {fuel:Nat} {listed:Array Bool} {a:Act} {w:World} (hcl:Closed ops listed)
 (hfree:∀j oj,ops[j]?=some oj→j≠i→listed.getD j true=false→(∀ e∈oj.after,Region.binds .any e=true→e.on≠i)→oi.apart ops oj=true)
 (hr:i∈Region.ready .any ops listed) (hy:YieldsIf P ops (Later w) oi v a)
 (H:Qdw P ops Q ts.contains fuel (listed.setIfInBounds i true) (a.put oi.dst v) w):Qdw P ops Q ts.contains (fuel+1) listed a w:=by
 cases hex:Qhf ops ts i with
 | true=>
   have hb:bare oi=true:=by
    simp only[Qhf,hi,QD7,QEr,QCG]at hex
    exact hex.1
   exact Qec (S:=fun _=>True) hi hsel hQ (fun _ _ _ _ _ _ _ _ _ _=>trivial) fuel listed a w hcl hfree hr (Qny hb hy) trivial H
 | false=>
   exact Qec (S:=Later w) hi hsel hQ (fun listed j w w' hcl hr hj _ h hS=>hS.trans (h (QxB hT hti hex hcl hr hj))) fuel listed a w hcl hfree hr hy (Later.refl _) H
def QiD (P:Program) (ops:Array Oper) (Q:Exit→Act→World→Prop) (tl:Nat→Bool):List (Nat×Bool)→Act→World→Prop
 | [],a,w=>Q .normal a w
 | (i,true) :: r,a,w=>∃o,ops[i]?=some o∧if Region.wanted o (yielded ops a.tmps) then o.quiet P a (Later w) (fun a'=>QiD P ops Q tl r a' w) else QiD P ops Q tl r (a.put o.dst undef) w
 | (i,false) :: r,a,w=>wpOp P ops Q i (fun a' w'=>(tl i=false→Later w w')∧QiD P ops Q tl r a' w') a w
def seqB (ops:Array Oper) (tl:Nat→Bool):List (Nat×Bool)→Array Bool→Bool
 | [],listed=>(Region.ready .any ops listed).isEmpty
 | (i,true) :: r,listed=>(Region.ready .any ops listed).contains i&&Region.free .any ops listed i&&((ops[i]?).map calm).getD false&& !tl i&&seqB ops tl r (listed.setIfInBounds i true)
 | (i,false) :: r,listed=>decide (Region.ready .any ops listed=[i])&&seqB ops tl r (listed.setIfInBounds i true)
theorem QeR {ts:List Nat} (hT:Qje ops ts=true) (hs:Region.noSelect ops=true) (hQ:∀c a d v w,Q (.panic c) (a.put d v) w→Q (.panic c) a w):
 ∀(l:List (Nat×Bool)) (listed:Array Bool) (a:Act) (w:World),Closed ops listed→seqB ops ts.contains l listed=true→
  QiD P ops Q ts.contains l a w→Qdw P ops Q ts.contains l.length listed a w
 | [],_,_,_,_,hB,h=>⟨by simpa [seqB] using hB,h⟩
 | (i,true) :: r,listed,a,w,hcl,hB,h=>by
   simp only[seqB,QCG]at hB
   obtain⟨⟨⟨⟨hr,hf⟩,hcm⟩,htl⟩,hB'⟩:=hB
   obtain⟨o,ho,h⟩:=h
   have hr':i∈Region.ready .any ops listed:=by simpa using hr
   have hcm':calm o=true:=by simpa [ho] using hcm
   have htl':ts.contains i=false:=by simpa using htl
   have next:∀v,YieldsIf P ops (Later w) o v a→QiD P ops Q ts.contains r (a.put o.dst v) w→Qdw P ops Q ts.contains (r.length+1) listed a w:=fun v hy hn=>
    Qfn hT ho htl' (Region.noSelect_spec hs) (fun c a w=>hQ c a _ _ w) hcl (Region.free_spec ho hf) hr' hy
     (QeR hT hs hQ r _ _ w (hcl.set hr') hB' hn)
   by_cases hw:Region.wanted o (yielded ops a.tmps)=true
   ·rw[if_pos hw]at h
    obtain⟨v,hy,hn⟩:=Qc8 hcm' hw h
    exact next v hy hn
   ·rw[if_neg hw]at h
    exact next undef (.inr ⟨by simpa using hw,rfl⟩) h
 | (i,false) :: r,listed,a,w,hcl,hB,h=>by
   simp only[seqB,QCG,decide_eq_true_eq]at hB
   obtain⟨hr,hB'⟩:=hB
   refine⟨fun h0=>(by rw[hr]at h0;cases h0),fun j hj=>?_⟩
   rw[hr]at hj
   obtain rfl:j=i:=by simpa using hj
   exact wpOp_mono (fun a' w' h3=>⟨h3.1,QeR hT hs hQ r _ a' w' (hcl.set (by rw[hr];simp)) hB' h3.2⟩) h
def pick:List Oper→List Nat→List Oper
 | _,[]=>[]
 | l,i :: r=>(l[i]?).toList++pick l r
theorem Qef {l:List Oper} {Qa:Act→Prop} {r:List (Nat×Bool)} {tl:Nat→Bool} {w:World} (hQa:∀a,Qa a→QiD P l.toArray Q tl r a w):∀(qs:List Nat),(qs.all fun i=>decide (i<l.length))=true→
 ∀a,wpQuiet P l.toArray (Later w) Qa (pick l qs) a→QiD P l.toArray Q tl (qs.map (·,true)++r) a w
 | [],_,a,h=>hQa a h
 | i :: qs,hb,a,h=>by
   simp only[QDA,QCG,decide_eq_true_eq]at hb
   have hi:l[i]?=some (l[i]'hb.1):=QCv hb.1
   refine⟨l[i]'hb.1,by simp[hb.1],?_⟩
   simp only[pick,hi,QCq,QDW,wpQuiet]at h
   by_cases hw:Region.wanted (l[i]'hb.1) (yielded l.toArray a.tmps)=true
   ·rw[if_pos hw]at h ⊢
    exact Oper.quiet_mono (fun a' h'=>Qef hQa qs hb.2 a' h') h
   ·rw[if_neg hw]at h ⊢
    exact Qef hQa qs hb.2 _ h
theorem Qcm {l:List Oper} {i:Nat} (hi:i<l.length) {K:Act→World→Prop} {a:Act} {w:World} (h:wpList P l.toArray (Exit.then K Q) (pick l [i]) a w):wpOp P l.toArray Q i K a w:=by
 have hi':l[i]?=some (l[i]'hi):=QCv hi
 simp only[pick,hi',QCq,QC1,wpList]at h
 have hk:∀a w,wpList P l.toArray (Exit.then K Q) [] a w→K a w:=fun a w h=>h
 unfold wpOp
 simp only[List.getElem?_toArray,hi']
 by_cases hw:Region.wanted (l[i]'hi) (yielded l.toArray a.tmps)=true
 ·rw[if_pos hw]at h ⊢
  rcases h with h|⟨h1,h2⟩
  ·left
   have h:=Oper.wp_mono hk h
   unfold Oper.wp at h ⊢
   generalize (execOp a.eval (l[i]'hi)).run P w=r at h ⊢
   cases r with
   | ok n w'=>
     cases n<;>simp only[Oper.upon]at h ⊢ <;>first
      | exact h
      | exact Calls.mono h (fun e w'' he=>(by cases e<;>exact he))
   | halt x w'=>cases x<;>simp only[Oper.upon]at h ⊢;exact h
  ·exact .inr ⟨h1,h2⟩
 ·rw[if_neg hw]at h ⊢
  exact h
theorem Qgc {l:List Oper} {tl:Nat→Bool}:∀(ts:List Nat),(ts.all fun i=>decide (i<l.length)&&tl i)=true→
 ∀a w,wpList P l.toArray Q (pick l ts) a w→QiD P l.toArray Q tl (ts.map (·,false)) a w
 | [],_,a,w,h=>h
 | i :: ts,hb,a,w,h=>by
   simp only[QDA,QCG,decide_eq_true_eq]at hb
   have hi:l[i]?=some (l[i]'hb.1.1):=QCv hb.1.1
   simp only[pick,hi,QCq,QDW,wpList]at h
   show wpOp P l.toArray Q i _ a w
   unfold wpOp
   simp only[List.getElem?_toArray,hi]
   have hn:∀a w1,wpList P l.toArray Q (pick l ts) a w1→(tl i=false→Later w w1)∧QiD P l.toArray Q tl (ts.map (·,false)) a w1:=fun a w1 h=>
    ⟨fun h0=>(by rw[hb.1.2]at h0;cases h0),Qgc ts hb.2 a w1 h⟩
   by_cases hw:Region.wanted (l[i]'hb.1.1) (yielded l.toArray a.tmps)=true
   ·rw[if_pos hw]at h ⊢
    exact h.imp (Oper.wp_mono hn) id
   ·rw[if_neg hw]at h ⊢
    exact hn _ _ h
def Qai (P:Program) (l:List Oper) (Q:Exit→Act→World→Prop) (qs ts:List Nat):List (List Nat×Nat)→Act→World→Prop
 | [],a,w=>wpQuiet P l.toArray (fun w'=>∃x,w'=grow w x) (fun a'=>wpList P l.toArray Q (pick l ts) a' w) (pick l qs) a
 | (q,i) :: r,a,w=>wpQuiet P l.toArray (fun w'=>∃x,w'=grow w x) (fun a'=>wpList P l.toArray (Exit.then (fun a'' w''=>Later w w''∧Qai P l Q qs ts r a'' w'') Q) (pick l [i]) a' w) (pick l q) a
def flat (qs ts:List Nat):List (List Nat×Nat)→List (Nat×Bool)
 | []=>qs.map (·,true)++ts.map (·,false)
 | (q,i) :: r=>q.map (·,true)++(i,false) :: flat qs ts r
def Qwm (l:List Oper) (qs ts:List Nat) (segs:List (List Nat×Nat)):Bool:=
 Region.noSelect l.toArray&&Qje l.toArray ts&&(qs.all fun i=>decide (i<l.length))&&(ts.all fun i=>decide (i<l.length)&&ts.contains i)&&(segs.all fun s=>decide (s.2<l.length)&&s.1.all fun i=>decide (i<l.length)) &&
 seqB l.toArray ts.contains (flat qs ts segs) (QDL l.length false)&&decide ((flat qs ts segs).length=l.length)
theorem Qhj {l:List Oper} {qs ts:List Nat} (hq:(qs.all fun i=>decide (i<l.length))=true) (ht:(ts.all fun i=>decide (i<l.length)&&ts.contains i)=true):
 ∀(segs:List (List Nat×Nat)),(segs.all fun s=>decide (s.2<l.length)&&s.1.all fun i=>decide (i<l.length))=true→∀a w,Qai P l Q qs ts segs a w→QiD P l.toArray Q ts.contains (flat qs ts segs) a w
 | [],_,a,w,h=>Qef (fun a h=>Qgc ts ht a w h) qs hq a h
 | (q,i) :: r,hb,a,w,h=>by
   simp only[QDA,QCG,decide_eq_true_eq]at hb
   refine Qef (fun a h=>?_) q hb.1.2 a h
   exact wpOp_mono (fun a' w' h'=>⟨fun _=>h'.1,Qhj hq ht r hb.2 a' w' h'.2⟩) (Qcm hb.1.1 h)
theorem Qe0 (l:List Oper):Closed l.toArray (QDL l.length false):=⟨by simp,fun j oj hj hl=>by
 rcases QDq j l.length with h|h
 ·simp[h]at hl
 ·simp[h]at hl⟩
theorem Qad {id:Nat} {a:Act} {w:World} {l:List Oper} (segs:List (List Nat×Nat)) (qs ts:List Nat) (hm:P.follows .mixedOrders=true) (hB:Qwm l qs ts segs=true)
 (hQ:∀c a d v w,Q (.panic c) (a.put d v) w→Q (.panic c) a w) (h:Qai P l Q qs ts segs a w.drew):(Code.region id l.toArray true).wp P Q a w:=by
 simp only[Qwm,QCG,decide_eq_true_eq]at hB
 obtain⟨⟨⟨⟨⟨⟨hs,hT⟩,hq⟩,ht⟩,hsg⟩,hsq⟩,hlen⟩:=hB
 refine wp_region_any hm (Qfy (tl:=ts.contains) _ _ _ _ ?_)
 have:=QeR hT hs hQ (flat qs ts segs) (QDL l.length false) a w.drew (Qe0 l) hsq (Qhj hq ht segs hsg a _ h)
 rw[hlen]at this
 simpa using this
end
def W8 (x:UInt8):Value:=.int .u8 (x.toNat:Int)
def W32 (x:UInt32):Value:=.int .u32 (x.toNat:Int)
def W64 (x:UInt64):Value:=.int .u64 (x.toNat:Int)
theorem Qdr (n:Int):IntKind.u8.wrap n=n%256:=by simp[IntKind.wrap,IntKind.bits,IntKind.signed]
theorem QcH (n:Int):IntKind.u32.wrap n=n%4294967296:=by simp[IntKind.wrap,IntKind.bits,IntKind.signed]
theorem QcI (n:Int):IntKind.u64.wrap n=n%18446744073709551616:=by simp[IntKind.wrap,IntKind.bits,IntKind.signed]
theorem Qa7 {k:Nat} (x:BitVec k):QDJ k (x.toNat:Int)=x:=by
 apply BitVec.eq_of_toNat_eq
 simp
theorem Qkm (x:UInt8):((x.toNat:Int)%256)=x.toNat:=by have:=x.toNat_lt;omega
theorem Qh7 (x:UInt32):((x.toNat:Int)%4294967296)=x.toNat:=by have:=x.toNat_lt;omega
theorem Qh2 (x:UInt64):((x.toNat:Int)%18446744073709551616)=x.toNat:=by have:=x.toNat_lt;omega
def cnt (n:UInt64):Nat:=n.toNat
theorem Qa9 (T:TypeId) (ox oy:Operand) (op:BinOp) (k k':IntKind) (x y:Int):eqGuard op T ox oy (.int k x) (.int k' y)=pure ():=by
 cases op<;>rfl
def shl8 (x:UInt8) (n:Nat):UInt8:=⟨x.toBitVec <<< n⟩
def shr8 (x:UInt8) (n:Nat):UInt8:=⟨x.toBitVec >>> n⟩
theorem Qf5 {x:UInt8} {n:Int} (h:(x.toNat:Int)=n):Value.int .u8 n=W8 x:=by rw[W8,h]
section
variable (T:TypeId) (ox oy:Operand)
@[go_sem] theorem QyC (op:BinOp) (x y:UInt8):eqGuard op T ox oy (W8 x) (W8 y)=pure ():=Qa9 ..
@[go_sem] theorem QxM (op:BinOp) (x:UInt8) (k:IntKind) (y:Int):eqGuard op T ox oy (W8 x) (.int k y)=pure ():=Qa9 ..
@[go_sem] theorem QwB (op:BinOp) (x:UInt8) (k:IntKind) (y:Int):eqGuard op T ox oy (.int k y) (W8 x)=pure ():=Qa9 ..
theorem QbY (n:Int) (h0:0≤n) (h1:n<256):Value.int .u8 n=W8 (QC2 n.toNat):=by
 apply Qf5
 rw[QDM]
 omega
theorem QoM (n:Int):(QC9 n).toNat=(n%256).toNat:=by
 simp[QC9,QDM]
 try omega
theorem QwD (n:Int):Value.int .u8 (IntKind.wrap .u8 n)=W8 (QC9 n):=by
 apply Qf5
 rw[Qdr]
 have:=QoM n
 omega
@[go_sem] theorem QvD (x y:UInt8):binOp .add T (W8 x) (W8 y)=pure (W8 (x+y)):=by
  show binOp .add T (.int .u8 x.toNat) (.int .u8 y.toNat)=_
  rw[binOp_add]
  simp only[Op.intArith]
  rw[Qf5 (x:=x+y)]
  rw[Qdr,UInt8.toNat_add]
  omega
@[go_sem] theorem QBF (x:UInt8) (n:Int) (h0:0≤n) (h1:n<256):binOp .add T (W8 x) (.int .u8 n)=pure (W8 (x+QC2 n.toNat)):=by
  rw[QbY n h0 h1]
  exact QvD T x _
@[go_sem] theorem QBS (y:UInt8) (n:Int) (h0:0≤n) (h1:n<256):binOp .add T (.int .u8 n) (W8 y)=pure (W8 (QC2 n.toNat+y)):=by
  rw[QbY n h0 h1]
  exact QvD T _ y
@[go_sem] theorem QvL (x y:UInt8):binOp .sub T (W8 x) (W8 y)=pure (W8 (x-y)):=by
  show binOp .sub T (.int .u8 x.toNat) (.int .u8 y.toNat)=_
  rw[binOp_sub]
  simp only[Op.intArith]
  rw[Qf5 (x:=x-y)]
  rw[Qdr,UInt8.toNat_sub]
  have:=y.toNat_lt
  omega
@[go_sem] theorem QBe (x:UInt8) (n:Int) (h0:0≤n) (h1:n<256):binOp .sub T (W8 x) (.int .u8 n)=pure (W8 (x-QC2 n.toNat)):=by
  rw[QbY n h0 h1]
  exact QvL T x _
@[go_sem] theorem QBA (y:UInt8) (n:Int) (h0:0≤n) (h1:n<256):binOp .sub T (.int .u8 n) (W8 y)=pure (W8 (QC2 n.toNat-y)):=by
  rw[QbY n h0 h1]
  exact QvL T _ y
@[go_sem] theorem Qwe (x y:UInt8):binOp .mul T (W8 x) (W8 y)=pure (W8 (x*y)):=by
  show binOp .mul T (.int .u8 x.toNat) (.int .u8 y.toNat)=_
  rw[binOp_mul]
  simp only[Op.intArith]
  rw[Qf5 (x:=x*y)]
  rw[Qdr,UInt8.toNat_mul,←QEo]
  omega
@[go_sem] theorem QBw (x:UInt8) (n:Int) (h0:0≤n) (h1:n<256):binOp .mul T (W8 x) (.int .u8 n)=pure (W8 (x*QC2 n.toNat)):=by
  rw[QbY n h0 h1]
  exact Qwe T x _
@[go_sem] theorem QBm (y:UInt8) (n:Int) (h0:0≤n) (h1:n<256):binOp .mul T (.int .u8 n) (W8 y)=pure (W8 (QC2 n.toNat*y)):=by
  rw[QbY n h0 h1]
  exact Qwe T _ y
@[go_sem] theorem QvF (x y:UInt8):binOp .and T (W8 x) (W8 y)=pure (W8 (x &&& y)):=by
  show binOp .and T (.int .u8 x.toNat) (.int .u8 y.toNat)=_
  rw[binOp_and]
  simp only[Op.intBits]
  rw[Qf5 (x:=x &&& y)]
  have e1:QDJ (IntKind.bits .u8) (x.toNat:Int)=x.toBitVec:=Qa7 x.toBitVec
  have e2:QDJ (IntKind.bits .u8) (y.toNat:Int)=y.toBitVec:=Qa7 y.toBitVec
  rw[e1,e2,Qdr]
  exact (Qkm (x &&& y)).symm
@[go_sem] theorem QBT (x:UInt8) (n:Int) (h0:0≤n) (h1:n<256):binOp .and T (W8 x) (.int .u8 n)=pure (W8 (x &&& QC2 n.toNat)):=by
  rw[QbY n h0 h1]
  exact QvF T x _
@[go_sem] theorem QBv (y:UInt8) (n:Int) (h0:0≤n) (h1:n<256):binOp .and T (.int .u8 n) (W8 y)=pure (W8 (QC2 n.toNat &&& y)):=by
  rw[QbY n h0 h1]
  exact QvF T _ y
@[go_sem] theorem Qzf (x y:UInt8):binOp .or T (W8 x) (W8 y)=pure (W8 (x ||| y)):=by
  show binOp .or T (.int .u8 x.toNat) (.int .u8 y.toNat)=_
  rw[binOp_or]
  simp only[Op.intBits]
  rw[Qf5 (x:=x ||| y)]
  have e1:QDJ (IntKind.bits .u8) (x.toNat:Int)=x.toBitVec:=Qa7 x.toBitVec
  have e2:QDJ (IntKind.bits .u8) (y.toNat:Int)=y.toBitVec:=Qa7 y.toBitVec
  rw[e1,e2,Qdr]
  exact (Qkm (x ||| y)).symm
@[go_sem] theorem QCg (x:UInt8) (n:Int) (h0:0≤n) (h1:n<256):binOp .or T (W8 x) (.int .u8 n)=pure (W8 (x ||| QC2 n.toNat)):=by
  rw[QbY n h0 h1]
  exact Qzf T x _
@[go_sem] theorem QCi (y:UInt8) (n:Int) (h0:0≤n) (h1:n<256):binOp .or T (.int .u8 n) (W8 y)=pure (W8 (QC2 n.toNat ||| y)):=by
  rw[QbY n h0 h1]
  exact Qzf T _ y
@[go_sem] theorem QvC (x y:UInt8):binOp .xor T (W8 x) (W8 y)=pure (W8 (x ^^^ y)):=by
  show binOp .xor T (.int .u8 x.toNat) (.int .u8 y.toNat)=_
  rw[binOp_xor]
  simp only[Op.intBits]
  rw[Qf5 (x:=x ^^^ y)]
  have e1:QDJ (IntKind.bits .u8) (x.toNat:Int)=x.toBitVec:=Qa7 x.toBitVec
  have e2:QDJ (IntKind.bits .u8) (y.toNat:Int)=y.toBitVec:=Qa7 y.toBitVec
  rw[e1,e2,Qdr]
  exact (Qkm (x ^^^ y)).symm
@[go_sem] theorem QBq (x:UInt8) (n:Int) (h0:0≤n) (h1:n<256):binOp .xor T (W8 x) (.int .u8 n)=pure (W8 (x ^^^ QC2 n.toNat)):=by
  rw[QbY n h0 h1]
  exact QvC T x _
@[go_sem] theorem Qxq (y:UInt8) (n:Int) (h0:0≤n) (h1:n<256):binOp .xor T (.int .u8 n) (W8 y)=pure (W8 (QC2 n.toNat ^^^ y)):=by
  rw[QbY n h0 h1]
  exact QvC T _ y
@[go_sem] theorem Qvx (x y:UInt8):binOp .eql T (W8 x) (W8 y)=pure (.bool (x==y)):=by
  show binOp .eql T (.int .u8 x.toNat) (.int .u8 y.toNat)=_
  rw[binOp_eql]
  have:((x.toNat:Int)==(y.toNat:Int))=(x==y):=by
   rw[QDb,beq_iff_eq,beq_iff_eq,←QDl]
   omega
  simp only[this]
@[go_sem] theorem QB4 (x:UInt8) (n:Int) (h0:0≤n) (h1:n<256):binOp .eql T (W8 x) (.int .u8 n)=pure (.bool (x==(QC2 n.toNat))):=by
  rw[QbY n h0 h1]
  exact Qvx T x _
@[go_sem] theorem QBn (y:UInt8) (n:Int) (h0:0≤n) (h1:n<256):binOp .eql T (.int .u8 n) (W8 y)=pure (.bool ((QC2 n.toNat)==y)):=by
  rw[QbY n h0 h1]
  exact Qvx T _ y
@[go_sem] theorem QvB (x y:UInt8):binOp .neq T (W8 x) (W8 y)=pure (.bool (x != y)):=by
  show binOp .neq T (.int .u8 x.toNat) (.int .u8 y.toNat)=_
  rw[binOp_neq]
  have:((x.toNat:Int)==(y.toNat:Int))=(x==y):=by
   rw[QDb,beq_iff_eq,beq_iff_eq,←QDl]
   omega
  simp only[bne,this]
@[go_sem] theorem QBP (x:UInt8) (n:Int) (h0:0≤n) (h1:n<256):binOp .neq T (W8 x) (.int .u8 n)=pure (.bool (x != (QC2 n.toNat))):=by
  rw[QbY n h0 h1]
  exact QvB T x _
@[go_sem] theorem QBr (y:UInt8) (n:Int) (h0:0≤n) (h1:n<256):binOp .neq T (.int .u8 n) (W8 y)=pure (.bool ((QC2 n.toNat) != y)):=by
  rw[QbY n h0 h1]
  exact QvB T _ y
@[go_sem] theorem QvW (x y:UInt8):binOp .lss T (W8 x) (W8 y)=pure (.bool (decide (x<y))):=by
  show binOp .lss T (.int .u8 x.toNat) (.int .u8 y.toNat)=_
  rw[binOp_lss]
  congr 2
  rw[decide_eq_decide,UInt8.lt_iff_toNat_lt]
  omega
@[go_sem] theorem QB5 (x:UInt8) (n:Int) (h0:0≤n) (h1:n<256):binOp .lss T (W8 x) (.int .u8 n)=pure (.bool (decide (x<(QC2 n.toNat)))):=by
  rw[QbY n h0 h1]
  exact QvW T x _
@[go_sem] theorem QCf (y:UInt8) (n:Int) (h0:0≤n) (h1:n<256):binOp .lss T (.int .u8 n) (W8 y)=pure (.bool (decide ((QC2 n.toNat)<y))):=by
  rw[QbY n h0 h1]
  exact QvW T _ y
@[go_sem] theorem Qwa (x y:UInt8):binOp .leq T (W8 x) (W8 y)=pure (.bool (decide (x≤y))):=by
  show binOp .leq T (.int .u8 x.toNat) (.int .u8 y.toNat)=_
  rw[binOp_leq]
  congr 2
  rw[decide_eq_decide,UInt8.le_iff_toNat_le]
  omega
@[go_sem] theorem QBs (x:UInt8) (n:Int) (h0:0≤n) (h1:n<256):binOp .leq T (W8 x) (.int .u8 n)=pure (.bool (decide (x≤(QC2 n.toNat)))):=by
  rw[QbY n h0 h1]
  exact Qwa T x _
@[go_sem] theorem QBI (y:UInt8) (n:Int) (h0:0≤n) (h1:n<256):binOp .leq T (.int .u8 n) (W8 y)=pure (.bool (decide ((QC2 n.toNat)≤y))):=by
  rw[QbY n h0 h1]
  exact Qwa T _ y
@[go_sem] theorem QvM (x y:UInt8):binOp .gtr T (W8 x) (W8 y)=pure (.bool (decide (y<x))):=by
  show binOp .gtr T (.int .u8 x.toNat) (.int .u8 y.toNat)=_
  rw[binOp_gtr]
  congr 2
  rw[decide_eq_decide,UInt8.lt_iff_toNat_lt]
  omega
@[go_sem] theorem QBE (x:UInt8) (n:Int) (h0:0≤n) (h1:n<256):binOp .gtr T (W8 x) (.int .u8 n)=pure (.bool (decide ((QC2 n.toNat)<x))):=by
  rw[QbY n h0 h1]
  exact QvM T x _
@[go_sem] theorem QBV (y:UInt8) (n:Int) (h0:0≤n) (h1:n<256):binOp .gtr T (.int .u8 n) (W8 y)=pure (.bool (decide (y<(QC2 n.toNat)))):=by
  rw[QbY n h0 h1]
  exact QvM T _ y
@[go_sem] theorem QvV (x y:UInt8):binOp .geq T (W8 x) (W8 y)=pure (.bool (decide (y≤x))):=by
  show binOp .geq T (.int .u8 x.toNat) (.int .u8 y.toNat)=_
  rw[binOp_geq]
  congr 2
  rw[decide_eq_decide,UInt8.le_iff_toNat_le]
  omega
@[go_sem] theorem QBj (x:UInt8) (n:Int) (h0:0≤n) (h1:n<256):binOp .geq T (W8 x) (.int .u8 n)=pure (.bool (decide ((QC2 n.toNat)≤x))):=by
  rw[QbY n h0 h1]
  exact QvV T x _
@[go_sem] theorem QBx (y:UInt8) (n:Int) (h0:0≤n) (h1:n<256):binOp .geq T (.int .u8 n) (W8 y)=pure (.bool (decide (y≤(QC2 n.toNat)))):=by
  rw[QbY n h0 h1]
  exact QvV T _ y
@[go_sem] theorem QvG (x y:UInt8) (hy: ¬((y).toNat:Int)=0):binOp .quo T (W8 x) (W8 y)=pure (W8 (x/y)):=by
  show binOp .quo T (.int .u8 x.toNat) (.int .u8 y.toNat)=_
  rw[binOp_quo]
  simp only[Op.intDiv]
  rw[if_neg hy,Qf5 (x:=x/y)]
  rw[Qdr,UInt8.toNat_div,Int.tdiv_eq_ediv_of_nonneg (by omega),←Int.natCast_ediv]
  have h1:=Nat.div_le_self x.toNat y.toNat
  have h2:=x.toNat_lt
  generalize x.toNat/y.toNat=q at *
  omega
@[go_sem] theorem QBD (x:UInt8) (n:Int) (h0:0≤n) (h1:n<256) (hy: ¬((QC2 n.toNat).toNat:Int)=0):binOp .quo T (W8 x) (.int .u8 n)=pure (W8 (x/(QC2 n.toNat))):=by
  rw[QbY n h0 h1]
  exact QvG T x _ hy
@[go_sem] theorem QBz (y:UInt8) (n:Int) (h0:0≤n) (h1:n<256) (hy: ¬((y).toNat:Int)=0):binOp .quo T (.int .u8 n) (W8 y)=pure (W8 (QC2 n.toNat/y)):=by
  rw[QbY n h0 h1]
  exact QvG T _ y hy
@[go_sem] theorem Qwp (x y:UInt8) (hy: ¬((y).toNat:Int)=0):binOp .rem T (W8 x) (W8 y)=pure (W8 (x%y)):=by
  show binOp .rem T (.int .u8 x.toNat) (.int .u8 y.toNat)=_
  rw[binOp_rem]
  simp only[Op.intDiv]
  rw[if_neg hy,Qf5 (x:=x%y)]
  rw[UInt8.toNat_mod,Int.tmod_eq_emod_of_nonneg (by omega),←Int.natCast_emod]
@[go_sem] theorem QBH (x:UInt8) (n:Int) (h0:0≤n) (h1:n<256) (hy: ¬((QC2 n.toNat).toNat:Int)=0):binOp .rem T (W8 x) (.int .u8 n)=pure (W8 (x%(QC2 n.toNat))):=by
  rw[QbY n h0 h1]
  exact Qwp T x _ hy
@[go_sem] theorem QCb (y:UInt8) (n:Int) (h0:0≤n) (h1:n<256) (hy: ¬((y).toNat:Int)=0):binOp .rem T (.int .u8 n) (W8 y)=pure (W8 (QC2 n.toNat%y)):=by
  rw[QbY n h0 h1]
  exact Qwp T _ y hy
theorem QsK (x:UInt8) (yk:IntKind) (n:Int) (h0:0≤n):binOp .shl T (W8 x) (.int yk n)=pure (W8 (shl8 x n.toNat)):=by
 show binOp .shl T (.int .u8 x.toNat) (.int yk n)=_
 rw[binOp_shl]
 simp only[Op.shift]
 rw[if_neg (by omega),Qf5 (x:=shl8 x n.toNat)]
 have e:(shl8 x n.toNat).toNat=(x.toNat*2^n.toNat)%256:=by
  show (x.toBitVec <<< n.toNat).toNat=_
  rw[QDT,QD1]
  rfl
 rw[Qdr,e]
 have hb:IntKind.bits .u8=8:=rfl
 rw[hb]
 rcases Nat.le_total n.toNat 8 with h|h
 ·rw[QDG h]
  have:((2:Int)^n.toNat)=((2^n.toNat:Nat):Int):=by simp
  rw[this,←QEo]
  omega
 ·rw[Nat.min_eq_right h]
  obtain⟨d,hd⟩:=Nat.exists_eq_add_of_le h
  have e1:x.toNat*2^n.toNat=256*(x.toNat*2^d):=by rw[hd,QDO];show x.toNat*(256*2^d)=_;rw[QEw]
  rw[e1,Nat.mul_mod_right]
  omega
@[go_sem] theorem QCl (x:UInt8) (yk:IntKind) (n:Int):binOp .shl T (W8 x) (.int yk n)=if n<0 then runtimePanic (.error "negative shift amount") else pure (W8 (shl8 x n.toNat)):=by
  by_cases h:n<0
  ·rw[if_pos h]
   show binOp .shl T (.int .u8 x.toNat) (.int yk n)=_
   rw[binOp_shl]
   simp only[Op.shift]
   rw[if_pos h]
  ·rw[if_neg h]
   exact QsK T x yk n (by omega)
theorem Qrh (x:UInt8) (yk:IntKind) (n:Int) (h0:0≤n):binOp .shr T (W8 x) (.int yk n)=pure (W8 (shr8 x n.toNat)):=by
 show binOp .shr T (.int .u8 x.toNat) (.int yk n)=_
 rw[binOp_shr]
 simp only[Op.shift]
 rw[if_neg (by omega),Qf5 (x:=shr8 x n.toNat)]
 have e:(shr8 x n.toNat).toNat=x.toNat/2^n.toNat:=by
  show (x.toBitVec >>> n.toNat).toNat=_
  rw[QDs,QDo]
  rfl
 rw[e]
 have hb:IntKind.bits .u8=8:=rfl
 rw[hb]
 have hx:=x.toNat_lt
 have ep:∀m:Nat,((2:Int)^m)=((2^m:Nat):Int):=fun m=>by simp
 rw[ep,Int.fdiv_eq_ediv_of_nonneg _ (Int.natCast_nonneg _),←Int.natCast_ediv]
 rcases Nat.le_total n.toNat 8 with h|h
 ·rw[QDG h]
 ·rw[Nat.min_eq_right h]
  have h1:x.toNat/2^8=0:=QDd (by simpa using hx)
  have h2:x.toNat/2^n.toNat=0:=QDd (QCM (by simpa using hx) (QDh (by omega) h))
  rw[h1,h2]
@[go_sem] theorem QCm (x:UInt8) (yk:IntKind) (n:Int):binOp .shr T (W8 x) (.int yk n)=if n<0 then runtimePanic (.error "negative shift amount") else pure (W8 (shr8 x n.toNat)):=by
  by_cases h:n<0
  ·rw[if_pos h]
   show binOp .shr T (.int .u8 x.toNat) (.int yk n)=_
   rw[binOp_shr]
   simp only[Op.shift]
   rw[if_pos h]
  ·rw[if_neg h]
   exact Qrh T x yk n (by omega)
@[go_sem] theorem QB8 (x:UInt8) (n:UInt64):binOp .shl T (W8 x) (W64 n)=pure (W8 (shl8 x (cnt n))):=QsK T x .u64 n.toNat (by omega)
@[go_sem] theorem QBR (x:UInt8) (n:UInt64):binOp .shr T (W8 x) (W64 n)=pure (W8 (shr8 x (cnt n))):=Qrh T x .u64 n.toNat (by omega)
@[go_sem] theorem QvJ (x:UInt8):Op.unary .xor (W8 x)=pure (W8 (~~~x)):=by
  have h:binOp .xor 0 (.int .u8 (255:Int)) (W8 x)=pure (W8 (~~~x)):=by
   rw[Qxq 0 x 255 (by omega) (by omega)]
   congr 2
  exact h
end
def QeY (x:UInt32) (n:Nat):UInt32:=⟨x.toBitVec <<< n⟩
def Qcg (x:UInt32) (n:Nat):UInt32:=⟨x.toBitVec >>> n⟩
theorem QdN {x:UInt32} {n:Int} (h:(x.toNat:Int)=n):Value.int .u32 n=W32 x:=by rw[W32,h]
section
variable (T:TypeId) (ox oy:Operand)
@[go_sem] theorem QwR (op:BinOp) (x y:UInt32):eqGuard op T ox oy (W32 x) (W32 y)=pure ():=Qa9 ..
@[go_sem] theorem QvT (op:BinOp) (x:UInt32) (k:IntKind) (y:Int):eqGuard op T ox oy (W32 x) (.int k y)=pure ():=Qa9 ..
@[go_sem] theorem Qwt (op:BinOp) (x:UInt32) (k:IntKind) (y:Int):eqGuard op T ox oy (.int k y) (W32 x)=pure ():=Qa9 ..
theorem Qbk (n:Int) (h0:0≤n) (h1:n<4294967296):Value.int .u32 n=W32 (QCW n.toNat):=by
 apply QdN
 rw[QDX]
 omega
theorem Qsg (n:Int):(UInt32.ofInt n).toNat=(n%4294967296).toNat:=by
 simp[UInt32.ofInt,QDX]
 try omega
theorem QuH (n:Int):Value.int .u32 (IntKind.wrap .u32 n)=W32 (UInt32.ofInt n):=by
 apply QdN
 rw[QcH]
 have:=Qsg n
 omega
@[go_sem] theorem QqJ (x y:UInt32):binOp .add T (W32 x) (W32 y)=pure (W32 (x+y)):=by
  show binOp .add T (.int .u32 x.toNat) (.int .u32 y.toNat)=_
  rw[binOp_add]
  simp only[Op.intArith]
  rw[QdN (x:=x+y)]
  rw[QcH,UInt32.toNat_add]
  omega
@[go_sem] theorem QAg (x:UInt32) (n:Int) (h0:0≤n) (h1:n<4294967296):binOp .add T (W32 x) (.int .u32 n)=pure (W32 (x+QCW n.toNat)):=by
  rw[Qbk n h0 h1]
  exact QqJ T x _
@[go_sem] theorem QA1 (y:UInt32) (n:Int) (h0:0≤n) (h1:n<4294967296):binOp .add T (.int .u32 n) (W32 y)=pure (W32 (QCW n.toNat+y)):=by
  rw[Qbk n h0 h1]
  exact QqJ T _ y
@[go_sem] theorem QrD (x y:UInt32):binOp .sub T (W32 x) (W32 y)=pure (W32 (x-y)):=by
  show binOp .sub T (.int .u32 x.toNat) (.int .u32 y.toNat)=_
  rw[binOp_sub]
  simp only[Op.intArith]
  rw[QdN (x:=x-y)]
  rw[QcH,UInt32.toNat_sub]
  have:=y.toNat_lt
  omega
@[go_sem] theorem QAw (x:UInt32) (n:Int) (h0:0≤n) (h1:n<4294967296):binOp .sub T (W32 x) (.int .u32 n)=pure (W32 (x-QCW n.toNat)):=by
  rw[Qbk n h0 h1]
  exact QrD T x _
@[go_sem] theorem QAX (y:UInt32) (n:Int) (h0:0≤n) (h1:n<4294967296):binOp .sub T (.int .u32 n) (W32 y)=pure (W32 (QCW n.toNat-y)):=by
  rw[Qbk n h0 h1]
  exact QrD T _ y
@[go_sem] theorem QrQ (x y:UInt32):binOp .mul T (W32 x) (W32 y)=pure (W32 (x*y)):=by
  show binOp .mul T (.int .u32 x.toNat) (.int .u32 y.toNat)=_
  rw[binOp_mul]
  simp only[Op.intArith]
  rw[QdN (x:=x*y)]
  rw[QcH,UInt32.toNat_mul,←QEo]
  omega
@[go_sem] theorem QAZ (x:UInt32) (n:Int) (h0:0≤n) (h1:n<4294967296):binOp .mul T (W32 x) (.int .u32 n)=pure (W32 (x*QCW n.toNat)):=by
  rw[Qbk n h0 h1]
  exact QrQ T x _
@[go_sem] theorem QAn (y:UInt32) (n:Int) (h0:0≤n) (h1:n<4294967296):binOp .mul T (.int .u32 n) (W32 y)=pure (W32 (QCW n.toNat*y)):=by
  rw[Qbk n h0 h1]
  exact QrQ T _ y
@[go_sem] theorem Qr1 (x y:UInt32):binOp .and T (W32 x) (W32 y)=pure (W32 (x &&& y)):=by
  show binOp .and T (.int .u32 x.toNat) (.int .u32 y.toNat)=_
  rw[binOp_and]
  simp only[Op.intBits]
  rw[QdN (x:=x &&& y)]
  have e1:QDJ (IntKind.bits .u32) (x.toNat:Int)=x.toBitVec:=Qa7 x.toBitVec
  have e2:QDJ (IntKind.bits .u32) (y.toNat:Int)=y.toBitVec:=Qa7 y.toBitVec
  rw[e1,e2,QcH]
  exact (Qh7 (x &&& y)).symm
@[go_sem] theorem QAc (x:UInt32) (n:Int) (h0:0≤n) (h1:n<4294967296):binOp .and T (W32 x) (.int .u32 n)=pure (W32 (x &&& QCW n.toNat)):=by
  rw[Qbk n h0 h1]
  exact Qr1 T x _
@[go_sem] theorem QAo (y:UInt32) (n:Int) (h0:0≤n) (h1:n<4294967296):binOp .and T (.int .u32 n) (W32 y)=pure (W32 (QCW n.toNat &&& y)):=by
  rw[Qbk n h0 h1]
  exact Qr1 T _ y
@[go_sem] theorem Qv1 (x y:UInt32):binOp .or T (W32 x) (W32 y)=pure (W32 (x ||| y)):=by
  show binOp .or T (.int .u32 x.toNat) (.int .u32 y.toNat)=_
  rw[binOp_or]
  simp only[Op.intBits]
  rw[QdN (x:=x ||| y)]
  have e1:QDJ (IntKind.bits .u32) (x.toNat:Int)=x.toBitVec:=Qa7 x.toBitVec
  have e2:QDJ (IntKind.bits .u32) (y.toNat:Int)=y.toBitVec:=Qa7 y.toBitVec
  rw[e1,e2,QcH]
  exact (Qh7 (x ||| y)).symm
@[go_sem] theorem QBg (x:UInt32) (n:Int) (h0:0≤n) (h1:n<4294967296):binOp .or T (W32 x) (.int .u32 n)=pure (W32 (x ||| QCW n.toNat)):=by
  rw[Qbk n h0 h1]
  exact Qv1 T x _
@[go_sem] theorem QBt (y:UInt32) (n:Int) (h0:0≤n) (h1:n<4294967296):binOp .or T (.int .u32 n) (W32 y)=pure (W32 (QCW n.toNat ||| y)):=by
  rw[Qbk n h0 h1]
  exact Qv1 T _ y
@[go_sem] theorem Qtp (x y:UInt32):binOp .xor T (W32 x) (W32 y)=pure (W32 (x ^^^ y)):=by
  show binOp .xor T (.int .u32 x.toNat) (.int .u32 y.toNat)=_
  rw[binOp_xor]
  simp only[Op.intBits]
  rw[QdN (x:=x ^^^ y)]
  have e1:QDJ (IntKind.bits .u32) (x.toNat:Int)=x.toBitVec:=Qa7 x.toBitVec
  have e2:QDJ (IntKind.bits .u32) (y.toNat:Int)=y.toBitVec:=Qa7 y.toBitVec
  rw[e1,e2,QcH]
  exact (Qh7 (x ^^^ y)).symm
@[go_sem] theorem QAN (x:UInt32) (n:Int) (h0:0≤n) (h1:n<4294967296):binOp .xor T (W32 x) (.int .u32 n)=pure (W32 (x ^^^ QCW n.toNat)):=by
  rw[Qbk n h0 h1]
  exact Qtp T x _
@[go_sem] theorem Qus (y:UInt32) (n:Int) (h0:0≤n) (h1:n<4294967296):binOp .xor T (.int .u32 n) (W32 y)=pure (W32 (QCW n.toNat ^^^ y)):=by
  rw[Qbk n h0 h1]
  exact Qtp T _ y
@[go_sem] theorem Qm5 (x y:UInt32):binOp .eql T (W32 x) (W32 y)=pure (.bool (x==y)):=by
  show binOp .eql T (.int .u32 x.toNat) (.int .u32 y.toNat)=_
  rw[binOp_eql]
  have:((x.toNat:Int)==(y.toNat:Int))=(x==y):=by
   rw[QDb,beq_iff_eq,beq_iff_eq,←QEs]
   omega
  simp only[this]
@[go_sem] theorem QAd (x:UInt32) (n:Int) (h0:0≤n) (h1:n<4294967296):binOp .eql T (W32 x) (.int .u32 n)=pure (.bool (x==(QCW n.toNat))):=by
  rw[Qbk n h0 h1]
  exact Qm5 T x _
@[go_sem] theorem QBa (y:UInt32) (n:Int) (h0:0≤n) (h1:n<4294967296):binOp .eql T (.int .u32 n) (W32 y)=pure (.bool ((QCW n.toNat)==y)):=by
  rw[Qbk n h0 h1]
  exact Qm5 T _ y
@[go_sem] theorem Qr0 (x y:UInt32):binOp .neq T (W32 x) (W32 y)=pure (.bool (x != y)):=by
  show binOp .neq T (.int .u32 x.toNat) (.int .u32 y.toNat)=_
  rw[binOp_neq]
  have:((x.toNat:Int)==(y.toNat:Int))=(x==y):=by
   rw[QDb,beq_iff_eq,beq_iff_eq,←QEs]
   omega
  simp only[bne,this]
@[go_sem] theorem QAv (x:UInt32) (n:Int) (h0:0≤n) (h1:n<4294967296):binOp .neq T (W32 x) (.int .u32 n)=pure (.bool (x != (QCW n.toNat))):=by
  rw[Qbk n h0 h1]
  exact Qr0 T x _
@[go_sem] theorem QAp (y:UInt32) (n:Int) (h0:0≤n) (h1:n<4294967296):binOp .neq T (.int .u32 n) (W32 y)=pure (.bool ((QCW n.toNat) != y)):=by
  rw[Qbk n h0 h1]
  exact Qr0 T _ y
@[go_sem] theorem Qrz (x y:UInt32):binOp .lss T (W32 x) (W32 y)=pure (.bool (decide (x<y))):=by
  show binOp .lss T (.int .u32 x.toNat) (.int .u32 y.toNat)=_
  rw[binOp_lss]
  congr 2
  rw[decide_eq_decide,UInt32.lt_iff_toNat_lt]
  omega
@[go_sem] theorem QBd (x:UInt32) (n:Int) (h0:0≤n) (h1:n<4294967296):binOp .lss T (W32 x) (.int .u32 n)=pure (.bool (decide (x<(QCW n.toNat)))):=by
  rw[Qbk n h0 h1]
  exact Qrz T x _
@[go_sem] theorem QA3 (y:UInt32) (n:Int) (h0:0≤n) (h1:n<4294967296):binOp .lss T (.int .u32 n) (W32 y)=pure (.bool (decide ((QCW n.toNat)<y))):=by
  rw[Qbk n h0 h1]
  exact Qrz T _ y
@[go_sem] theorem Qrk (x y:UInt32):binOp .leq T (W32 x) (W32 y)=pure (.bool (decide (x≤y))):=by
  show binOp .leq T (.int .u32 x.toNat) (.int .u32 y.toNat)=_
  rw[binOp_leq]
  congr 2
  rw[decide_eq_decide,UInt32.le_iff_toNat_le]
  omega
@[go_sem] theorem QBb (x:UInt32) (n:Int) (h0:0≤n) (h1:n<4294967296):binOp .leq T (W32 x) (.int .u32 n)=pure (.bool (decide (x≤(QCW n.toNat)))):=by
  rw[Qbk n h0 h1]
  exact Qrk T x _
@[go_sem] theorem QAs (y:UInt32) (n:Int) (h0:0≤n) (h1:n<4294967296):binOp .leq T (.int .u32 n) (W32 y)=pure (.bool (decide ((QCW n.toNat)≤y))):=by
  rw[Qbk n h0 h1]
  exact Qrk T _ y
@[go_sem] theorem QrY (x y:UInt32):binOp .gtr T (W32 x) (W32 y)=pure (.bool (decide (y<x))):=by
  show binOp .gtr T (.int .u32 x.toNat) (.int .u32 y.toNat)=_
  rw[binOp_gtr]
  congr 2
  rw[decide_eq_decide,UInt32.lt_iff_toNat_lt]
  omega
@[go_sem] theorem QAm (x:UInt32) (n:Int) (h0:0≤n) (h1:n<4294967296):binOp .gtr T (W32 x) (.int .u32 n)=pure (.bool (decide ((QCW n.toNat)<x))):=by
  rw[Qbk n h0 h1]
  exact QrY T x _
@[go_sem] theorem QAi (y:UInt32) (n:Int) (h0:0≤n) (h1:n<4294967296):binOp .gtr T (.int .u32 n) (W32 y)=pure (.bool (decide (y<(QCW n.toNat)))):=by
  rw[Qbk n h0 h1]
  exact QrY T _ y
@[go_sem] theorem Qtq (x y:UInt32):binOp .geq T (W32 x) (W32 y)=pure (.bool (decide (y≤x))):=by
  show binOp .geq T (.int .u32 x.toNat) (.int .u32 y.toNat)=_
  rw[binOp_geq]
  congr 2
  rw[decide_eq_decide,UInt32.le_iff_toNat_le]
  omega
@[go_sem] theorem QAI (x:UInt32) (n:Int) (h0:0≤n) (h1:n<4294967296):binOp .geq T (W32 x) (.int .u32 n)=pure (.bool (decide ((QCW n.toNat)≤x))):=by
  rw[Qbk n h0 h1]
  exact Qtq T x _
@[go_sem] theorem QA4 (y:UInt32) (n:Int) (h0:0≤n) (h1:n<4294967296):binOp .geq T (.int .u32 n) (W32 y)=pure (.bool (decide (y≤(QCW n.toNat)))):=by
  rw[Qbk n h0 h1]
  exact Qtq T _ y
@[go_sem] theorem QrX (x y:UInt32) (hy: ¬((y).toNat:Int)=0):binOp .quo T (W32 x) (W32 y)=pure (W32 (x/y)):=by
  show binOp .quo T (.int .u32 x.toNat) (.int .u32 y.toNat)=_
  rw[binOp_quo]
  simp only[Op.intDiv]
  rw[if_neg hy,QdN (x:=x/y)]
  rw[QcH,UInt32.toNat_div,Int.tdiv_eq_ediv_of_nonneg (by omega),←Int.natCast_ediv]
  have h1:=Nat.div_le_self x.toNat y.toNat
  have h2:=x.toNat_lt
  generalize x.toNat/y.toNat=q at *
  omega
@[go_sem] theorem QAE (x:UInt32) (n:Int) (h0:0≤n) (h1:n<4294967296) (hy: ¬((QCW n.toNat).toNat:Int)=0):binOp .quo T (W32 x) (.int .u32 n)=pure (W32 (x/(QCW n.toNat))):=by
  rw[Qbk n h0 h1]
  exact QrX T x _ hy
@[go_sem] theorem QAQ (y:UInt32) (n:Int) (h0:0≤n) (h1:n<4294967296) (hy: ¬((y).toNat:Int)=0):binOp .quo T (.int .u32 n) (W32 y)=pure (W32 (QCW n.toNat/y)):=by
  rw[Qbk n h0 h1]
  exact QrX T _ y hy
@[go_sem] theorem Qsc (x y:UInt32) (hy: ¬((y).toNat:Int)=0):binOp .rem T (W32 x) (W32 y)=pure (W32 (x%y)):=by
  show binOp .rem T (.int .u32 x.toNat) (.int .u32 y.toNat)=_
  rw[binOp_rem]
  simp only[Op.intDiv]
  rw[if_neg hy,QdN (x:=x%y)]
  rw[UInt32.toNat_mod,Int.tmod_eq_emod_of_nonneg (by omega),←Int.natCast_emod]
@[go_sem] theorem QoT (x:UInt32) (n:Int) (h0:0≤n) (h1:n<4294967296) (hy: ¬((QCW n.toNat).toNat:Int)=0):binOp .rem T (W32 x) (.int .u32 n)=pure (W32 (x%(QCW n.toNat))):=by
  rw[Qbk n h0 h1]
  exact Qsc T x _ hy
@[go_sem] theorem QA0 (y:UInt32) (n:Int) (h0:0≤n) (h1:n<4294967296) (hy: ¬((y).toNat:Int)=0):binOp .rem T (.int .u32 n) (W32 y)=pure (W32 (QCW n.toNat%y)):=by
  rw[Qbk n h0 h1]
  exact Qsc T _ y hy
theorem Qok (x:UInt32) (yk:IntKind) (n:Int) (h0:0≤n):binOp .shl T (W32 x) (.int yk n)=pure (W32 (QeY x n.toNat)):=by
 show binOp .shl T (.int .u32 x.toNat) (.int yk n)=_
 rw[binOp_shl]
 simp only[Op.shift]
 rw[if_neg (by omega),QdN (x:=QeY x n.toNat)]
 have e:(QeY x n.toNat).toNat=(x.toNat*2^n.toNat)%4294967296:=by
  show (x.toBitVec <<< n.toNat).toNat=_
  rw[QDT,QD1]
  rfl
 rw[QcH,e]
 have hb:IntKind.bits .u32=32:=rfl
 rw[hb]
 rcases Nat.le_total n.toNat 32 with h|h
 ·rw[QDG h]
  have:((2:Int)^n.toNat)=((2^n.toNat:Nat):Int):=by simp
  rw[this,←QEo]
  omega
 ·rw[Nat.min_eq_right h]
  obtain⟨d,hd⟩:=Nat.exists_eq_add_of_le h
  have e1:x.toNat*2^n.toNat=4294967296*(x.toNat*2^d):=by rw[hd,QDO];show x.toNat*(4294967296*2^d)=_;rw[QEw]
  rw[e1,Nat.mul_mod_right]
  omega
@[go_sem] theorem QCc (x:UInt32) (yk:IntKind) (n:Int):binOp .shl T (W32 x) (.int yk n)=if n<0 then runtimePanic (.error "negative shift amount") else pure (W32 (QeY x n.toNat)):=by
  by_cases h:n<0
  ·rw[if_pos h]
   show binOp .shl T (.int .u32 x.toNat) (.int yk n)=_
   rw[binOp_shl]
   simp only[Op.shift]
   rw[if_pos h]
  ·rw[if_neg h]
   exact Qok T x yk n (by omega)
theorem QkT (x:UInt32) (yk:IntKind) (n:Int) (h0:0≤n):binOp .shr T (W32 x) (.int yk n)=pure (W32 (Qcg x n.toNat)):=by
 show binOp .shr T (.int .u32 x.toNat) (.int yk n)=_
 rw[binOp_shr]
 simp only[Op.shift]
 rw[if_neg (by omega),QdN (x:=Qcg x n.toNat)]
 have e:(Qcg x n.toNat).toNat=x.toNat/2^n.toNat:=by
  show (x.toBitVec >>> n.toNat).toNat=_
  rw[QDs,QDo]
  rfl
 rw[e]
 have hb:IntKind.bits .u32=32:=rfl
 rw[hb]
 have hx:=x.toNat_lt
 have ep:∀m:Nat,((2:Int)^m)=((2^m:Nat):Int):=fun m=>by simp
 rw[ep,Int.fdiv_eq_ediv_of_nonneg _ (Int.natCast_nonneg _),←Int.natCast_ediv]
 rcases Nat.le_total n.toNat 32 with h|h
 ·rw[QDG h]
 ·rw[Nat.min_eq_right h]
  have h1:x.toNat/2^32=0:=QDd (by simpa using hx)
  have h2:x.toNat/2^n.toNat=0:=QDd (QCM (by simpa using hx) (QDh (by omega) h))
  rw[h1,h2]
@[go_sem] theorem QB1 (x:UInt32) (yk:IntKind) (n:Int):binOp .shr T (W32 x) (.int yk n)=if n<0 then runtimePanic (.error "negative shift amount") else pure (W32 (Qcg x n.toNat)):=by
  by_cases h:n<0
  ·rw[if_pos h]
   show binOp .shr T (.int .u32 x.toNat) (.int yk n)=_
   rw[binOp_shr]
   simp only[Op.shift]
   rw[if_pos h]
  ·rw[if_neg h]
   exact QkT T x yk n (by omega)
@[go_sem] theorem QAh (x:UInt32) (n:UInt64):binOp .shl T (W32 x) (W64 n)=pure (W32 (QeY x (cnt n))):=Qok T x .u64 n.toNat (by omega)
@[go_sem] theorem QAq (x:UInt32) (n:UInt64):binOp .shr T (W32 x) (W64 n)=pure (W32 (Qcg x (cnt n))):=QkT T x .u64 n.toNat (by omega)
@[go_sem] theorem QuD (x:UInt32):Op.unary .xor (W32 x)=pure (W32 (~~~x)):=by
  have h:binOp .xor 0 (.int .u32 (4294967295:Int)) (W32 x)=pure (W32 (~~~x)):=by
   rw[Qus 0 x 4294967295 (by omega) (by omega)]
   congr 2
  exact h
end
def Qi6 (x:UInt64) (n:Nat):UInt64:=⟨x.toBitVec <<< n⟩
def Qgt (x:UInt64) (n:Nat):UInt64:=⟨x.toBitVec >>> n⟩
theorem QdU {x:UInt64} {n:Int} (h:(x.toNat:Int)=n):Value.int .u64 n=W64 x:=by rw[W64,h]
section
variable (T:TypeId) (ox oy:Operand)
@[go_sem] theorem QxU (op:BinOp) (x y:UInt64):eqGuard op T ox oy (W64 x) (W64 y)=pure ():=Qa9 ..
@[go_sem] theorem Qwn (op:BinOp) (x:UInt64) (k:IntKind) (y:Int):eqGuard op T ox oy (W64 x) (.int k y)=pure ():=Qa9 ..
@[go_sem] theorem Qv5 (op:BinOp) (x:UInt64) (k:IntKind) (y:Int):eqGuard op T ox oy (.int k y) (W64 x)=pure ():=Qa9 ..
theorem Qbc (n:Int) (h0:0≤n) (h1:n<18446744073709551616):Value.int .u64 n=W64 (QCN n.toNat):=by
 apply QdU
 rw[QCV]
 omega
theorem Qmb (n:Int):(QDy n).toNat=(n%18446744073709551616).toNat:=by
 simp[QDy,QCV]
 try omega
theorem QdW (n:Nat):QDy (n:Int)=QCN n:=by
 apply QD2.1
 rw[Qmb,QCV]
 omega
theorem QuV (n:Int):Value.int .u64 (IntKind.wrap .u64 n)=W64 (QDy n):=by
 apply QdU
 rw[QcI]
 have:=Qmb n
 omega
@[go_sem] theorem Qmz (x y:UInt64):binOp .add T (W64 x) (W64 y)=pure (W64 (x+y)):=by
  show binOp .add T (.int .u64 x.toNat) (.int .u64 y.toNat)=_
  rw[binOp_add]
  simp only[Op.intArith]
  rw[QdU (x:=x+y)]
  rw[QcI,UInt64.toNat_add]
  omega
@[go_sem] theorem QAP (x:UInt64) (n:Int) (h0:0≤n) (h1:n<18446744073709551616):binOp .add T (W64 x) (.int .u64 n)=pure (W64 (x+QCN n.toNat)):=by
  rw[Qbc n h0 h1]
  exact Qmz T x _
@[go_sem] theorem QA7 (y:UInt64) (n:Int) (h0:0≤n) (h1:n<18446744073709551616):binOp .add T (.int .u64 n) (W64 y)=pure (W64 (QCN n.toNat+y)):=by
  rw[Qbc n h0 h1]
  exact Qmz T _ y
@[go_sem] theorem QmV (x y:UInt64):binOp .sub T (W64 x) (W64 y)=pure (W64 (x-y)):=by
  show binOp .sub T (.int .u64 x.toNat) (.int .u64 y.toNat)=_
  rw[binOp_sub]
  simp only[Op.intArith]
  rw[QdU (x:=x-y)]
  rw[QcI,UInt64.toNat_sub]
  have:=y.toNat_lt
  omega
@[go_sem] theorem QAK (x:UInt64) (n:Int) (h0:0≤n) (h1:n<18446744073709551616):binOp .sub T (W64 x) (.int .u64 n)=pure (W64 (x-QCN n.toNat)):=by
  rw[Qbc n h0 h1]
  exact QmV T x _
@[go_sem] theorem QAM (y:UInt64) (n:Int) (h0:0≤n) (h1:n<18446744073709551616):binOp .sub T (.int .u64 n) (W64 y)=pure (W64 (QCN n.toNat-y)):=by
  rw[Qbc n h0 h1]
  exact QmV T _ y
@[go_sem] theorem Qmv (x y:UInt64):binOp .mul T (W64 x) (W64 y)=pure (W64 (x*y)):=by
  show binOp .mul T (.int .u64 x.toNat) (.int .u64 y.toNat)=_
  rw[binOp_mul]
  simp only[Op.intArith]
  rw[QdU (x:=x*y)]
  rw[QcI,UInt64.toNat_mul,←QEo]
  omega
@[go_sem] theorem QAk (x:UInt64) (n:Int) (h0:0≤n) (h1:n<18446744073709551616):binOp .mul T (W64 x) (.int .u64 n)=pure (W64 (x*QCN n.toNat)):=by
  rw[Qbc n h0 h1]
  exact Qmv T x _
@[go_sem] theorem QA5 (y:UInt64) (n:Int) (h0:0≤n) (h1:n<18446744073709551616):binOp .mul T (.int .u64 n) (W64 y)=pure (W64 (QCN n.toNat*y)):=by
  rw[Qbc n h0 h1]
  exact Qmv T _ y
@[go_sem] theorem Qtx (x y:UInt64):binOp .and T (W64 x) (W64 y)=pure (W64 (x &&& y)):=by
  show binOp .and T (.int .u64 x.toNat) (.int .u64 y.toNat)=_
  rw[binOp_and]
  simp only[Op.intBits]
  rw[QdU (x:=x &&& y)]
  have e1:QDJ (IntKind.bits .u64) (x.toNat:Int)=x.toBitVec:=Qa7 x.toBitVec
  have e2:QDJ (IntKind.bits .u64) (y.toNat:Int)=y.toBitVec:=Qa7 y.toBitVec
  rw[e1,e2,QcI]
  exact (Qh2 (x &&& y)).symm
@[go_sem] theorem Qko (x:UInt64) (n:Int) (h0:0≤n) (h1:n<18446744073709551616):binOp .and T (W64 x) (.int .u64 n)=pure (W64 (x &&& QCN n.toNat)):=by
  rw[Qbc n h0 h1]
  exact Qtx T x _
@[go_sem] theorem QAC (y:UInt64) (n:Int) (h0:0≤n) (h1:n<18446744073709551616):binOp .and T (.int .u64 n) (W64 y)=pure (W64 (QCN n.toNat &&& y)):=by
  rw[Qbc n h0 h1]
  exact Qtx T _ y
@[go_sem] theorem Qrn (x y:UInt64):binOp .or T (W64 x) (W64 y)=pure (W64 (x ||| y)):=by
  show binOp .or T (.int .u64 x.toNat) (.int .u64 y.toNat)=_
  rw[binOp_or]
  simp only[Op.intBits]
  rw[QdU (x:=x ||| y)]
  have e1:QDJ (IntKind.bits .u64) (x.toNat:Int)=x.toBitVec:=Qa7 x.toBitVec
  have e2:QDJ (IntKind.bits .u64) (y.toNat:Int)=y.toBitVec:=Qa7 y.toBitVec
  rw[e1,e2,QcI]
  exact (Qh2 (x ||| y)).symm
@[go_sem] theorem QB2 (x:UInt64) (n:Int) (h0:0≤n) (h1:n<18446744073709551616):binOp .or T (W64 x) (.int .u64 n)=pure (W64 (x ||| QCN n.toNat)):=by
  rw[Qbc n h0 h1]
  exact Qrn T x _
@[go_sem] theorem QBZ (y:UInt64) (n:Int) (h0:0≤n) (h1:n<18446744073709551616):binOp .or T (.int .u64 n) (W64 y)=pure (W64 (QCN n.toNat ||| y)):=by
  rw[Qbc n h0 h1]
  exact Qrn T _ y
@[go_sem] theorem Qrs (x y:UInt64):binOp .xor T (W64 x) (W64 y)=pure (W64 (x ^^^ y)):=by
  show binOp .xor T (.int .u64 x.toNat) (.int .u64 y.toNat)=_
  rw[binOp_xor]
  simp only[Op.intBits]
  rw[QdU (x:=x ^^^ y)]
  have e1:QDJ (IntKind.bits .u64) (x.toNat:Int)=x.toBitVec:=Qa7 x.toBitVec
  have e2:QDJ (IntKind.bits .u64) (y.toNat:Int)=y.toBitVec:=Qa7 y.toBitVec
  rw[e1,e2,QcI]
  exact (Qh2 (x ^^^ y)).symm
@[go_sem] theorem QAD (x:UInt64) (n:Int) (h0:0≤n) (h1:n<18446744073709551616):binOp .xor T (W64 x) (.int .u64 n)=pure (W64 (x ^^^ QCN n.toNat)):=by
  rw[Qbc n h0 h1]
  exact Qrs T x _
@[go_sem] theorem Qt1 (y:UInt64) (n:Int) (h0:0≤n) (h1:n<18446744073709551616):binOp .xor T (.int .u64 n) (W64 y)=pure (W64 (QCN n.toNat ^^^ y)):=by
  rw[Qbc n h0 h1]
  exact Qrs T _ y
@[go_sem] theorem QnK (x y:UInt64):binOp .eql T (W64 x) (W64 y)=pure (.bool (x==y)):=by
  show binOp .eql T (.int .u64 x.toNat) (.int .u64 y.toNat)=_
  rw[binOp_eql]
  have:((x.toNat:Int)==(y.toNat:Int))=(x==y):=by
   rw[QDb,beq_iff_eq,beq_iff_eq,←QD2]
   omega
  simp only[this]
@[go_sem] theorem QAj (x:UInt64) (n:Int) (h0:0≤n) (h1:n<18446744073709551616):binOp .eql T (W64 x) (.int .u64 n)=pure (.bool (x==(QCN n.toNat))):=by
  rw[Qbc n h0 h1]
  exact QnK T x _
@[go_sem] theorem QAu (y:UInt64) (n:Int) (h0:0≤n) (h1:n<18446744073709551616):binOp .eql T (.int .u64 n) (W64 y)=pure (.bool ((QCN n.toNat)==y)):=by
  rw[Qbc n h0 h1]
  exact QnK T _ y
@[go_sem] theorem Qs5 (x y:UInt64):binOp .neq T (W64 x) (W64 y)=pure (.bool (x != y)):=by
  show binOp .neq T (.int .u64 x.toNat) (.int .u64 y.toNat)=_
  rw[binOp_neq]
  have:((x.toNat:Int)==(y.toNat:Int))=(x==y):=by
   rw[QDb,beq_iff_eq,beq_iff_eq,←QD2]
   omega
  simp only[bne,this]
@[go_sem] theorem QAF (x:UInt64) (n:Int) (h0:0≤n) (h1:n<18446744073709551616):binOp .neq T (W64 x) (.int .u64 n)=pure (.bool (x != (QCN n.toNat))):=by
  rw[Qbc n h0 h1]
  exact Qs5 T x _
@[go_sem] theorem QAG (y:UInt64) (n:Int) (h0:0≤n) (h1:n<18446744073709551616):binOp .neq T (.int .u64 n) (W64 y)=pure (.bool ((QCN n.toNat) != y)):=by
  rw[Qbc n h0 h1]
  exact Qs5 T _ y
@[go_sem] theorem Qm4 (x y:UInt64):binOp .lss T (W64 x) (W64 y)=pure (.bool (decide (x<y))):=by
  show binOp .lss T (.int .u64 x.toNat) (.int .u64 y.toNat)=_
  rw[binOp_lss]
  congr 2
  rw[decide_eq_decide,UInt64.lt_iff_toNat_lt]
  omega
@[go_sem] theorem QAS (x:UInt64) (n:Int) (h0:0≤n) (h1:n<18446744073709551616):binOp .lss T (W64 x) (.int .u64 n)=pure (.bool (decide (x<(QCN n.toNat)))):=by
  rw[Qbc n h0 h1]
  exact Qm4 T x _
@[go_sem] theorem QAV (y:UInt64) (n:Int) (h0:0≤n) (h1:n<18446744073709551616):binOp .lss T (.int .u64 n) (W64 y)=pure (.bool (decide ((QCN n.toNat)<y))):=by
  rw[Qbc n h0 h1]
  exact Qm4 T _ y
@[go_sem] theorem QtB (x y:UInt64):binOp .leq T (W64 x) (W64 y)=pure (.bool (decide (x≤y))):=by
  show binOp .leq T (.int .u64 x.toNat) (.int .u64 y.toNat)=_
  rw[binOp_leq]
  congr 2
  rw[decide_eq_decide,UInt64.le_iff_toNat_le]
  omega
@[go_sem] theorem QAr (x:UInt64) (n:Int) (h0:0≤n) (h1:n<18446744073709551616):binOp .leq T (W64 x) (.int .u64 n)=pure (.bool (decide (x≤(QCN n.toNat)))):=by
  rw[Qbc n h0 h1]
  exact QtB T x _
@[go_sem] theorem QAR (y:UInt64) (n:Int) (h0:0≤n) (h1:n<18446744073709551616):binOp .leq T (.int .u64 n) (W64 y)=pure (.bool (decide ((QCN n.toNat)≤y))):=by
  rw[Qbc n h0 h1]
  exact QtB T _ y
@[go_sem] theorem QnQ (x y:UInt64):binOp .gtr T (W64 x) (W64 y)=pure (.bool (decide (y<x))):=by
  show binOp .gtr T (.int .u64 x.toNat) (.int .u64 y.toNat)=_
  rw[binOp_gtr]
  congr 2
  rw[decide_eq_decide,UInt64.lt_iff_toNat_lt]
  omega
@[go_sem] theorem QA2 (x:UInt64) (n:Int) (h0:0≤n) (h1:n<18446744073709551616):binOp .gtr T (W64 x) (.int .u64 n)=pure (.bool (decide ((QCN n.toNat)<x))):=by
  rw[Qbc n h0 h1]
  exact QnQ T x _
@[go_sem] theorem QAU (y:UInt64) (n:Int) (h0:0≤n) (h1:n<18446744073709551616):binOp .gtr T (.int .u64 n) (W64 y)=pure (.bool (decide (y<(QCN n.toNat)))):=by
  rw[Qbc n h0 h1]
  exact QnQ T _ y
@[go_sem] theorem QsV (x y:UInt64):binOp .geq T (W64 x) (W64 y)=pure (.bool (decide (y≤x))):=by
  show binOp .geq T (.int .u64 x.toNat) (.int .u64 y.toNat)=_
  rw[binOp_geq]
  congr 2
  rw[decide_eq_decide,UInt64.le_iff_toNat_le]
  omega
@[go_sem] theorem QAO (x:UInt64) (n:Int) (h0:0≤n) (h1:n<18446744073709551616):binOp .geq T (W64 x) (.int .u64 n)=pure (.bool (decide ((QCN n.toNat)≤x))):=by
  rw[Qbc n h0 h1]
  exact QsV T x _
@[go_sem] theorem QA8 (y:UInt64) (n:Int) (h0:0≤n) (h1:n<18446744073709551616):binOp .geq T (.int .u64 n) (W64 y)=pure (.bool (decide (y≤(QCN n.toNat)))):=by
  rw[Qbc n h0 h1]
  exact QsV T _ y
@[go_sem] theorem QqX (x y:UInt64) (hy: ¬((y).toNat:Int)=0):binOp .quo T (W64 x) (W64 y)=pure (W64 (x/y)):=by
  show binOp .quo T (.int .u64 x.toNat) (.int .u64 y.toNat)=_
  rw[binOp_quo]
  simp only[Op.intDiv]
  rw[if_neg hy,QdU (x:=x/y)]
  rw[QcI,UInt64.toNat_div,Int.tdiv_eq_ediv_of_nonneg (by omega),←Int.natCast_ediv]
  have h1:=Nat.div_le_self x.toNat y.toNat
  have h2:=x.toNat_lt
  generalize x.toNat/y.toNat=q at *
  omega
@[go_sem] theorem QAl (x:UInt64) (n:Int) (h0:0≤n) (h1:n<18446744073709551616) (hy: ¬((QCN n.toNat).toNat:Int)=0):binOp .quo T (W64 x) (.int .u64 n)=pure (W64 (x/(QCN n.toNat))):=by
  rw[Qbc n h0 h1]
  exact QqX T x _ hy
@[go_sem] theorem QAt (y:UInt64) (n:Int) (h0:0≤n) (h1:n<18446744073709551616) (hy: ¬((y).toNat:Int)=0):binOp .quo T (.int .u64 n) (W64 y)=pure (W64 (QCN n.toNat/y)):=by
  rw[Qbc n h0 h1]
  exact QqX T _ y hy
@[go_sem] theorem Qrl (x y:UInt64) (hy: ¬((y).toNat:Int)=0):binOp .rem T (W64 x) (W64 y)=pure (W64 (x%y)):=by
  show binOp .rem T (.int .u64 x.toNat) (.int .u64 y.toNat)=_
  rw[binOp_rem]
  simp only[Op.intDiv]
  rw[if_neg hy,QdU (x:=x%y)]
  rw[UInt64.toNat_mod,Int.tmod_eq_emod_of_nonneg (by omega),←Int.natCast_emod]
@[go_sem] theorem QtV (x:UInt64) (n:Int) (h0:0≤n) (h1:n<18446744073709551616) (hy: ¬((QCN n.toNat).toNat:Int)=0):binOp .rem T (W64 x) (.int .u64 n)=pure (W64 (x%(QCN n.toNat))):=by
  rw[Qbc n h0 h1]
  exact Qrl T x _ hy
@[go_sem] theorem QAx (y:UInt64) (n:Int) (h0:0≤n) (h1:n<18446744073709551616) (hy: ¬((y).toNat:Int)=0):binOp .rem T (.int .u64 n) (W64 y)=pure (W64 (QCN n.toNat%y)):=by
  rw[Qbc n h0 h1]
  exact Qrl T _ y hy
theorem Qkg (x:UInt64) (yk:IntKind) (n:Int) (h0:0≤n):binOp .shl T (W64 x) (.int yk n)=pure (W64 (Qi6 x n.toNat)):=by
 show binOp .shl T (.int .u64 x.toNat) (.int yk n)=_
 rw[binOp_shl]
 simp only[Op.shift]
 rw[if_neg (by omega),QdU (x:=Qi6 x n.toNat)]
 have e:(Qi6 x n.toNat).toNat=(x.toNat*2^n.toNat)%18446744073709551616:=by
  show (x.toBitVec <<< n.toNat).toNat=_
  rw[QDT,QD1]
  rfl
 rw[QcI,e]
 have hb:IntKind.bits .u64=64:=rfl
 rw[hb]
 rcases Nat.le_total n.toNat 64 with h|h
 ·rw[QDG h]
  have:((2:Int)^n.toNat)=((2^n.toNat:Nat):Int):=by simp
  rw[this,←QEo]
  omega
 ·rw[Nat.min_eq_right h]
  obtain⟨d,hd⟩:=Nat.exists_eq_add_of_le h
  have e1:x.toNat*2^n.toNat=18446744073709551616*(x.toNat*2^d):=by rw[hd,QDO];show x.toNat*(18446744073709551616*2^d)=_;rw[QEw]
  rw[e1,Nat.mul_mod_right]
  omega
@[go_sem] theorem QBW (x:UInt64) (yk:IntKind) (n:Int):binOp .shl T (W64 x) (.int yk n)=if n<0 then runtimePanic (.error "negative shift amount") else pure (W64 (Qi6 x n.toNat)):=by
  by_cases h:n<0
  ·rw[if_pos h]
   show binOp .shl T (.int .u64 x.toNat) (.int yk n)=_
   rw[binOp_shl]
   simp only[Op.shift]
   rw[if_pos h]
  ·rw[if_neg h]
   exact Qkg T x yk n (by omega)
theorem QkO (x:UInt64) (yk:IntKind) (n:Int) (h0:0≤n):binOp .shr T (W64 x) (.int yk n)=pure (W64 (Qgt x n.toNat)):=by
 show binOp .shr T (.int .u64 x.toNat) (.int yk n)=_
 rw[binOp_shr]
 simp only[Op.shift]
 rw[if_neg (by omega),QdU (x:=Qgt x n.toNat)]
 have e:(Qgt x n.toNat).toNat=x.toNat/2^n.toNat:=by
  show (x.toBitVec >>> n.toNat).toNat=_
  rw[QDs,QDo]
  rfl
 rw[e]
 have hb:IntKind.bits .u64=64:=rfl
 rw[hb]
 have hx:=x.toNat_lt
 have ep:∀m:Nat,((2:Int)^m)=((2^m:Nat):Int):=fun m=>by simp
 rw[ep,Int.fdiv_eq_ediv_of_nonneg _ (Int.natCast_nonneg _),←Int.natCast_ediv]
 rcases Nat.le_total n.toNat 64 with h|h
 ·rw[QDG h]
 ·rw[Nat.min_eq_right h]
  have h1:x.toNat/2^64=0:=QDd (by simpa using hx)
  have h2:x.toNat/2^n.toNat=0:=QDd (QCM (by simpa using hx) (QDh (by omega) h))
  rw[h1,h2]
@[go_sem] theorem QB0 (x:UInt64) (yk:IntKind) (n:Int):binOp .shr T (W64 x) (.int yk n)=if n<0 then runtimePanic (.error "negative shift amount") else pure (W64 (Qgt x n.toNat)):=by
  by_cases h:n<0
  ·rw[if_pos h]
   show binOp .shr T (.int .u64 x.toNat) (.int yk n)=_
   rw[binOp_shr]
   simp only[Op.shift]
   rw[if_pos h]
  ·rw[if_neg h]
   exact QkO T x yk n (by omega)
@[go_sem] theorem QAy (x:UInt64) (n:UInt64):binOp .shl T (W64 x) (W64 n)=pure (W64 (Qi6 x (cnt n))):=Qkg T x .u64 n.toNat (by omega)
@[go_sem] theorem QAW (x:UInt64) (n:UInt64):binOp .shr T (W64 x) (W64 n)=pure (W64 (Qgt x (cnt n))):=QkO T x .u64 n.toNat (by omega)
@[go_sem] theorem Qve (x:UInt64):Op.unary .xor (W64 x)=pure (W64 (~~~x)):=by
  have h:binOp .xor 0 (.int .u64 (18446744073709551615:Int)) (W64 x)=pure (W64 (~~~x)):=by
   rw[Qt1 0 x 18446744073709551615 (by omega) (by omega)]
   congr 2
  exact h
end
section
variable {P:Program} (w:World) (S D:TypeId)
@[go_sem] theorem QpF (x:UInt8) (hs:(P.underlying S).isSome=true) (hd:P.underlying D=some (.int .u8)):(convert S D (W8 x)).run P w= .ok (W8 x) w:=by
  have h:=run_convert_int (P:=P) (w:=w) S D .u8 x.toNat hs (by unfold Program.intKind;rw[hd])
  have e:P.intKind D= .u8:=by unfold Program.intKind;rw[hd]
  rw[e]at h
  refine h.trans ?_
  rw[Qf5 (x:=x)]
  rw[Qdr]
  have:=x.toNat_lt
  skip
  omega
@[go_sem] theorem Qo9 (x:UInt8) (hs:(P.underlying S).isSome=true) (hd:P.underlying D=some (.int .u32)):(convert S D (W8 x)).run P w= .ok (W32 x.toUInt32) w:=by
  have h:=run_convert_int (P:=P) (w:=w) S D .u8 x.toNat hs (by unfold Program.intKind;rw[hd])
  have e:P.intKind D= .u32:=by unfold Program.intKind;rw[hd]
  rw[e]at h
  refine h.trans ?_
  rw[QdN (x:=x.toUInt32)]
  rw[QcH]
  have:=x.toNat_lt
  rw[UInt8.toNat_toUInt32]
  omega
@[go_sem] theorem QoK (x:UInt8) (hs:(P.underlying S).isSome=true) (hd:P.underlying D=some (.int .u64)):(convert S D (W8 x)).run P w= .ok (W64 x.toUInt64) w:=by
  have h:=run_convert_int (P:=P) (w:=w) S D .u8 x.toNat hs (by unfold Program.intKind;rw[hd])
  have e:P.intKind D= .u64:=by unfold Program.intKind;rw[hd]
  rw[e]at h
  refine h.trans ?_
  rw[QdU (x:=x.toUInt64)]
  rw[QcI]
  have:=x.toNat_lt
  rw[UInt8.toNat_toUInt64]
  omega
@[go_sem] theorem Qn3 (x:UInt8) (hs:(P.underlying S).isSome=true) (hd:P.underlying D=some (.int .i64)):(convert S D (W8 x)).run P w= .ok (.int .i64 (IntKind.i64.wrap x.toNat)) w:=by
  have h:=run_convert_int (P:=P) (w:=w) S D .u8 x.toNat hs (by unfold Program.intKind;rw[hd])
  have e:P.intKind D= .i64:=by unfold Program.intKind;rw[hd]
  rw[e]at h
  exact h
@[go_sem] theorem Qgu (x:UInt32) (hs:(P.underlying S).isSome=true) (hd:P.underlying D=some (.int .u8)):(convert S D (W32 x)).run P w= .ok (W8 x.toUInt8) w:=by
  have h:=run_convert_int (P:=P) (w:=w) S D .u32 x.toNat hs (by unfold Program.intKind;rw[hd])
  have e:P.intKind D= .u8:=by unfold Program.intKind;rw[hd]
  rw[e]at h
  refine h.trans ?_
  rw[Qf5 (x:=x.toUInt8)]
  rw[Qdr]
  skip
  rw[UInt32.toNat_toUInt8]
  omega
@[go_sem] theorem Qm1 (x:UInt32) (hs:(P.underlying S).isSome=true) (hd:P.underlying D=some (.int .u32)):(convert S D (W32 x)).run P w= .ok (W32 x) w:=by
  have h:=run_convert_int (P:=P) (w:=w) S D .u32 x.toNat hs (by unfold Program.intKind;rw[hd])
  have e:P.intKind D= .u32:=by unfold Program.intKind;rw[hd]
  rw[e]at h
  refine h.trans ?_
  rw[QdN (x:=x)]
  rw[QcH]
  have:=x.toNat_lt
  skip
  omega
@[go_sem] theorem Qgl (x:UInt32) (hs:(P.underlying S).isSome=true) (hd:P.underlying D=some (.int .u64)):(convert S D (W32 x)).run P w= .ok (W64 x.toUInt64) w:=by
  have h:=run_convert_int (P:=P) (w:=w) S D .u32 x.toNat hs (by unfold Program.intKind;rw[hd])
  have e:P.intKind D= .u64:=by unfold Program.intKind;rw[hd]
  rw[e]at h
  refine h.trans ?_
  rw[QdU (x:=x.toUInt64)]
  rw[QcI]
  have:=x.toNat_lt
  rw[UInt32.toNat_toUInt64]
  omega
@[go_sem] theorem QmW (x:UInt32) (hs:(P.underlying S).isSome=true) (hd:P.underlying D=some (.int .i64)):(convert S D (W32 x)).run P w= .ok (.int .i64 (IntKind.i64.wrap x.toNat)) w:=by
  have h:=run_convert_int (P:=P) (w:=w) S D .u32 x.toNat hs (by unfold Program.intKind;rw[hd])
  have e:P.intKind D= .i64:=by unfold Program.intKind;rw[hd]
  rw[e]at h
  exact h
@[go_sem] theorem QgA (x:UInt64) (hs:(P.underlying S).isSome=true) (hd:P.underlying D=some (.int .u8)):(convert S D (W64 x)).run P w= .ok (W8 x.toUInt8) w:=by
  have h:=run_convert_int (P:=P) (w:=w) S D .u64 x.toNat hs (by unfold Program.intKind;rw[hd])
  have e:P.intKind D= .u8:=by unfold Program.intKind;rw[hd]
  rw[e]at h
  refine h.trans ?_
  rw[Qf5 (x:=x.toUInt8)]
  rw[Qdr]
  skip
  rw[QEv]
  omega
@[go_sem] theorem Qf9 (x:UInt64) (hs:(P.underlying S).isSome=true) (hd:P.underlying D=some (.int .u32)):(convert S D (W64 x)).run P w= .ok (W32 x.toUInt32) w:=by
  have h:=run_convert_int (P:=P) (w:=w) S D .u64 x.toNat hs (by unfold Program.intKind;rw[hd])
  have e:P.intKind D= .u32:=by unfold Program.intKind;rw[hd]
  rw[e]at h
  refine h.trans ?_
  rw[QdN (x:=x.toUInt32)]
  rw[QcH]
  skip
  rw[UInt64.toNat_toUInt32]
  omega
@[go_sem] theorem QnE (x:UInt64) (hs:(P.underlying S).isSome=true) (hd:P.underlying D=some (.int .u64)):(convert S D (W64 x)).run P w= .ok (W64 x) w:=by
  have h:=run_convert_int (P:=P) (w:=w) S D .u64 x.toNat hs (by unfold Program.intKind;rw[hd])
  have e:P.intKind D= .u64:=by unfold Program.intKind;rw[hd]
  rw[e]at h
  refine h.trans ?_
  rw[QdU (x:=x)]
  rw[QcI]
  have:=x.toNat_lt
  skip
  omega
@[go_sem] theorem QnD (x:UInt64) (hs:(P.underlying S).isSome=true) (hd:P.underlying D=some (.int .i64)):(convert S D (W64 x)).run P w= .ok (.int .i64 (IntKind.i64.wrap x.toNat)) w:=by
  have h:=run_convert_int (P:=P) (w:=w) S D .u64 x.toNat hs (by unfold Program.intKind;rw[hd])
  have e:P.intKind D= .i64:=by unfold Program.intKind;rw[hd]
  rw[e]at h
  exact h
end
@[go_sem] theorem Qv9 (P:Program) (w:World) (a:Addr) (m:Mode) (x:UInt8):(store a (W8 x) m).run P w=stored P w a (W8 x) m:=run_store P w a _ m rfl
@[go_sem ↓] theorem QA9 (x:UInt8):(W8 x).cells= #[W8 x]:=rfl
@[go_sem] theorem Qvg (P:Program) (w:World) (a:Addr) (m:Mode) (x:UInt32):(store a (W32 x) m).run P w=stored P w a (W32 x) m:=run_store P w a _ m rfl
@[go_sem ↓] theorem QzB (x:UInt32):(W32 x).cells= #[W32 x]:=rfl
@[go_sem] theorem Qu6 (P:Program) (w:World) (a:Addr) (m:Mode) (x:UInt64):(store a (W64 x) m).run P w=stored P w a (W64 x) m:=run_store P w a _ m rfl
@[go_sem ↓] theorem QzY (x:UInt64):(W64 x).cells= #[W64 x]:=rfl
attribute [go_sem] QwD QuH QuV
end Go.Proofs.YtdkpcdgckgaklaaGreat
