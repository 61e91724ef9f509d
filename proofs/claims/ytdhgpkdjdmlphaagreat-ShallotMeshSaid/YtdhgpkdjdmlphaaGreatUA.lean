/-
  Lemmas for the last text of this claim (part 1 of 20).
-/
import Derived.ArgAppend
import Derived.BigQuiet
import Derived.BigRegion
import Derived.ChangeOld
import Derived.Deep.RegionWith
import Derived.DeepKeys4
import Derived.JoinedCond
import Derived.LaidMore
import Derived.Laws.BytesArg
import Derived.Laws.CopyOwn
import Derived.Laws.Externs
import Derived.Laws.IdiomStrings
import Derived.Laws.Tables
import Derived.Lib.AppendStr
import Derived.Lib.AppendZerosOnto
import Derived.Lib.Mul64
import Derived.Lib.SlBytesConst
import Derived.LoopN
import Derived.Maps.OwnSet
import Derived.OpenShut
import Derived.OrdersHeld
import Derived.ProofKit
import Derived.Shelf.Spec.BitsCarry
import Derived.ShutString
import Derived.Test.YtdhgpkdjdmlphaaGreatProg
import Derived.Test.YtdhgpkdjdmlphaaGreatRows
import Derived.WalkKit
import Derived.WalkLawsBesides
import Derived.WalkSpells
open Array renaming getElem?_eq_none → QH7, replicate → QIa
open BitVec renaming toNat_ushiftRight → QHz, ofInt → QHR, toNat_shiftLeft → QIy
open Bool renaming and_eq_true → QGM, eq_iff_iff → QHh, not_eq_true' → QHs, or_eq_true → QH4, false_or → QIU
open Int renaming tmod_eq_emod_of_nonneg → QIc, natCast_mul → QIi
open List renaming getElem?_eq_getElem → QGt, mem_cons → QGJ, append_nil → QGW, range → QG0, all_eq_true → QHa, mem_range → QHg, all_cons → QHT, any_eq_true → QHV, singleton_append → QIo
open Nat renaming lt_of_lt_of_le → QGN, lt_or_ge → QHb, div_eq_of_lt → QHm, pow_le_pow_right → QHt, shiftRight_eq_div_pow → QHv, min_eq_left → QHx, pow_add → QHW, shiftLeft_eq → QIF, mul_left_comm → QIJ
open Option renaming toList_some → QGs, map_some → QH9, getD_some → QIl
open UInt32 renaming ofNat → QG5, ofInt → QIe, toNat_ofNat' → QIz, toNat_inj → QIV
open UInt64 renaming ofNat → QGS, toNat_ofNat' → QGZ, ofInt → QHo, toNat_inj → QIx
open UInt8 renaming ofNat → QG3, ofInt → QG4, toNat_inj → QHl, toNat_ofNat' → QHy, lt_iff_toNat_lt → QIp
set_option linter.all false
namespace Go.Proofs.YtdhgpkdjdmlphaaGreat
open Go.RowKit
theorem hid {p:Prop} (h:p):Hid p:=h
structure More where
 blocks:Array Obj
 drawn:Nat
instance:Nonempty More:=⟨⟨#[],0⟩⟩
def grow (w:World) (x:More):World:={ w with heap:=w.heap++x.blocks,drawn:=x.drawn }
def Qra (w:World) (x:More) (a:Addr):Option Value:=if a.block<w.heap.size then none else (grow w x).cell? a
theorem Qkr (w:World) (x:More) (k:Nat) (h:k<w.heap.size):(grow w x).heap[k]?=w.heap[k]?:=by
 show (w.heap++x.blocks)[k]?=_
 rw[Array.getElem?_append_left h]
@[go_sem] theorem QCg (w:World) (x:More) (a:Addr):(grow w x).cell? a=(w.cell? a).or (Qra w x a):=by
  unfold Qra
  by_cases h:a.block<w.heap.size
  ·rw[if_pos h,Option.or_none]
   exact World.cell?_of_block (Qkr w x _ h)
  ·rw[if_neg h]
   have:w.cell? a=none:=by
    unfold World.cell?
    rw[QH7 (by omega)]
   rw[this,Option.none_or]
def Later (w:World):World→Prop:=fun w'=>∃x,w'=grow w x
theorem Later.refl (w:World):Later w w:=⟨⟨#[],w.drawn⟩,by simp[grow]⟩
theorem Later.of_below {w w':World} (h:Below w.heap.size w w'):Later w w':=by
 refine⟨⟨w'.heap.extract w.heap.size w'.heap.size,w'.drawn⟩,?_⟩
 have hh:w'.heap=w.heap++w'.heap.extract w.heap.size w'.heap.size:=by
  apply Array.ext_getElem?
  intro i
  rcases QHb i w.heap.size with hi|hi
  ·rw[Array.getElem?_append_left hi,h.block i hi]
  ·rw[Array.getElem?_append_right hi]
   have hs:=h.size
   rcases QHb i w'.heap.size with h2|h2
   ·have e1:i-w.heap.size<(w'.heap.extract w.heap.size w'.heap.size).size:=by simp;omega
    rw[Array.getElem?_eq_getElem h2,Array.getElem?_eq_getElem e1,Array.getElem_extract]
    congr 2
    omega
   ·rw[QH7 h2,QH7 (by simp;omega)]
 cases w'
 cases w
 have h1:=h.os
 have h2:=h.tape
 have h3:=h.output
 simp only at h1 h2 h3 hh
 simp only[grow,h1,h2,h3]
 congr 1
theorem Later.below {w w':World} (h:Later w w'):Below w.heap.size w w':=by
 obtain⟨x,rfl⟩:=h
 exact⟨rfl,rfl,rfl,by show w.heap.size≤(w.heap++x.blocks).size;simp,fun k hk=>Qkr w x k hk⟩
theorem Later.trans {a b c:World} (h:Later a b) (k:Later b c):Later a c:=by
 have h':=h.below
 have k':=k.below
 exact .of_below (h'.trans (k'.mono h'.size))
theorem Later.drew {a b:World} (h:Later a b):Later a b.drew:=h.trans (.of_below (Below.refl _ _).drew)
def calm (o:Oper):Bool:=match o.op with
 | .move _| .assign _| .pick .. | .nilCheck _| .binOp .. | .unOp .. | .convert .. | .fieldAddr .. | .field .. | .indexAddr .. | .index .. | .extract .. | .slice .. | .load .. | .build .. | .makeInterface .. | .typeAssert .. | .lookup .. =>true
 | .call { callee:=.builtin .len,.. }| .call { callee:=.builtin .cap,.. }| .call { callee:=.builtin .min,.. }| .call { callee:=.builtin .max,.. }=>true
 | _=>false
theorem Qc7 {e:Result Value} {n:Next} {w:World} (h:e.andThen (fun a w'=>Result.ok (Next.value a) w')= .ok n w):∃u,n= .value u:=by
 cases e with
 | ok a w'=>simp[Result.andThen]at h;exact⟨a,h.1.symm⟩
 | halt x w'=>simp[Result.andThen]at h
theorem Qgd {P:Program} {o:Oper} {ρ:Operand→Value} {w w':World} {n:Next} (h:calm o=true) (hr:(execOp ρ o).run P w= .ok n w'):∃u,n= .value u:=by
 obtain⟨dst,op,type,pos,after,guard⟩:=o
 cases op
 case call c=>
  obtain⟨callee,args,argTypes⟩:=c
  cases callee
  case builtin b=>
   cases b
   case len=>simp only[execOp,resolve,Sem.run_bind,Sem.run_pure,Result.andThen_ok,invoke,builtin]at hr;exact Qc7 hr
   case cap=>simp only[execOp,resolve,Sem.run_bind,Sem.run_pure,Result.andThen_ok,invoke,builtin]at hr;exact Qc7 hr
   case min=>simp only[execOp,resolve,Sem.run_bind,Sem.run_pure,Result.andThen_ok,invoke,builtin]at hr;exact Qc7 hr
   case max=>simp only[execOp,resolve,Sem.run_bind,Sem.run_pure,Result.andThen_ok,invoke,builtin]at hr;exact Qc7 hr
   all_goals (simp only[calm]at h;cases h)
  all_goals (simp only[calm]at h;cases h)
 case nilCheck x=>
  simp only[execOp]at hr
  generalize ρ x=r at hr
  cases r
  case func fn first captured=>
   cases fn
   case method name=>
    simp only[]at hr
    cases hf:first[0]? with
    | none=>rw[hf]at hr;simp only[Sem.run_pure]at hr;cases hr;exact⟨_,rfl⟩
    | some q=>
      rw[hf]at hr
      cases q
      case iface t u=>
       simp only[Sem.run_bind]at hr
       revert hr
       generalize Sem.run P program w=r1
       cases r1 with
       | halt x w1=>simp[Result.andThen]
       | ok p w1=>
         simp only[Result.andThen_ok]
         generalize Sem.run P (nilAhead (p.types.size+Made.depth) t u name) w1=r2
         cases r2 with
         | halt x w2=>simp[Result.andThen]
         | ok b w2=>
           simp only[Result.andThen_ok]
           by_cases hb:(b != some false)=true
           ·rw[if_pos hb]
            simp[unsupported]
           ·rw[if_neg hb]
            simp only[Sem.run_pure]
            intro hr
            cases hr
            exact⟨_,rfl⟩
      case nilIface=>simp[runtimePanic]at hr
      all_goals (simp only[Sem.run_pure]at hr;cases hr;exact⟨_,rfl⟩)
   all_goals (simp only[Sem.run_pure]at hr;cases hr;exact⟨_,rfl⟩)
  case pointer a=>
   cases a
   case none=>simp[runtimePanic]at hr
   case some a=>simp only[Sem.run_pure]at hr;cases hr;exact⟨_,rfl⟩
  case nilIface=>simp[runtimePanic]at hr
  case nilFunc=>simp[runtimePanic]at hr
  all_goals (simp only[Sem.run_pure]at hr;cases hr;exact⟨_,rfl⟩)
 case move x=>simp only[execOp,Sem.run_pure]at hr;cases hr;exact⟨_,rfl⟩
 case assign x=>simp only[execOp,Sem.run_pure]at hr;cases hr;exact⟨_,rfl⟩
 case pick c a b=>
  simp only[execOp,Sem.run_bind,Sem.run_pure]at hr
  revert hr
  generalize Sem.run P (asBool (ρ c)) w=r
  cases r with
  | halt x w1=>simp[Result.andThen]
  | ok b w1=>simp only[Result.andThen_ok];intro hr;cases hr;exact⟨_,rfl⟩
 all_goals first
  | (simp only[calm]at h;cases h;done)
  | (simp only[execOp,Sem.run_bind,Sem.run_pure]at hr;exact Qc7 hr)
section
variable {P:Program} {ops:Array Oper} {Q:Exit→Act→World→Prop} {w0:World}
theorem Qdn {o:Oper} {a:Act} {K:Act→Prop} (hc:calm o=true) (hw:Region.wanted o (yielded ops a.tmps)=true) (h:o.quiet P a (Later w0) K):
 ∃v,YieldsIf P ops (Later w0) o v a∧K (a.put o.dst v):=by
 obtain⟨v,h1,h2⟩:=h
 refine⟨v,.inl ⟨hw,fun w hl=>?_⟩,h2⟩
 have h3:=h1 w hl
 unfold Oper.quietAt at h3
 cases hr:(execOp a.eval o).run P w with
 | halt x w'=>rw[hr]at h3;exact absurd h3 (by simp[Oper.quietUpon])
 | ok n w'=>
   obtain⟨u,rfl⟩:=Qgd hc hr
   rw[hr]at h3
   obtain⟨rfl,rfl⟩:=h3
   rfl
def QdV (P:Program) (ops:Array Oper) (Q:Exit→Act→World→Prop) (tl:Nat→Bool):Nat→Array Bool→Act→World→Prop
 | 0,listed,a,w=>Region.ready .any ops listed=[]∧Q .normal a w
 | fuel+1,listed,a,w=>
   (Region.ready .any ops listed=[]→Q .normal a w)∧
   ∀i∈Region.ready .any ops listed,wpOp P ops Q i (fun a' w'=>(tl i=false→Later w w')∧QdV P ops Q tl fuel (listed.setIfInBounds i true) a' w') a w
theorem Qf5 {tl:Nat→Bool}:∀(fuel:Nat) (listed:Array Bool) (a:Act) (w:World),QdV P ops Q tl fuel listed a w→wpAny P .any ops Q fuel listed a w
 | 0,_,_,_,h=>h
 | fuel+1,_,_,_,h=>⟨h.1,fun i hi=>wpOp_mono (fun a' w' h'=>Qf5 fuel _ a' w' h'.2) (h.2 i hi)⟩
def Closed (ops:Array Oper) (listed:Array Bool):Prop:=
 listed.size=ops.size∧∀j oj,ops[j]?=some oj→listed.getD j false=true→∀e∈oj.after,Region.binds .any e=true→listed.getD e.on false=true
theorem Qb3 {listed:Array Bool} {i:Nat} (h:listed.getD i true=false):listed.getD i false=false:=by
 rcases QHb i listed.size with h'|h'
 ·simp[h']at h ⊢;exact h
 ·simp[QH7 h']at h
theorem Qib {listed:Array Bool} {i:Nat} (hi:i<listed.size) (h:listed.getD i false=false):listed.getD i true=false:=by
 simp[hi]at h ⊢;exact h
theorem Closed.set {listed:Array Bool} {i:Nat} (hc:Closed ops listed) (hi:i∈Region.ready .any ops listed):Closed ops (listed.setIfInBounds i true):=by
 obtain⟨_,oi,hoi,hall⟩:=mem_ready.1 hi
 refine⟨by simp[hc.1],fun j oj hj hl e he hb=>?_⟩
 by_cases hij:i=j
 ·subst hij
  have:oj=oi:=Option.some.inj (hj.symm.trans hoi)
  subst this
  exact getD_set_true (hall e he hb)
 ·rw[getD_set_ne false hij]at hl
  exact getD_set_true (hc.2 j oj hj hl e he hb)
def Qio (ops:Array Oper) (j i:Nat):Bool:=
 match ops[j]? with
 | some oj=>oj.after.any fun e=>Region.binds .any e&&e.on==i
 | none=>false
theorem Qgb {i j:Nat} (h:Qio ops j i=true):∃oj,ops[j]?=some oj∧∃e∈oj.after,Region.binds .any e=true∧e.on=i:=by
 unfold Qio at h
 split at h
 ·rename_i oj hj
  obtain⟨e,he,hb⟩:=Array.any_eq_true'.1 h
  simp only[QGM,beq_iff_eq]at hb
  exact⟨oj,hj,e,he,hb.1,hb.2⟩
 ·cases h
def bare (o:Oper):Bool:=match o.op with
 | .move _| .assign _| .extract .. =>true
 | _=>false
def QhL (ops:Array Oper) (ts:List Nat) (i:Nat):Bool:=((ops[i]?).map bare).getD false&& !((QG0 ops.size).any fun j=>Qio ops j i&& !(ts.tail.contains j))
def Qki (ops:Array Oper) (ts:List Nat):Bool:=
 match ts with
 | []=>true
 | t :: r=>
   ((QG0 ops.size).all fun i=>ts.contains i||QhL ops (t :: r) i||(QG0 ops.size).any fun j=>(j==t||(!ts.contains j&& !QhL ops (t :: r) j&&decide (i<j)))&&Qio ops j i) &&
   (List.zip (t :: r) r).all fun (p,q)=>Qio ops q p
theorem Qkd {t:Nat} {r:List Nat} (hB:Qki ops (t :: r)=true) {listed:Array Bool} (hc:Closed ops listed):
 ∀(d i:Nat),ops.size-i=d→i<ops.size→(t :: r).contains i=false→QhL ops (t :: r) i=false→listed.getD i true=false→listed.getD t false=false∧t∉Region.ready .any ops listed:=by
 intro d
 induction d using Nat.strongRecOn with
 | _ d ih=>
   intro i hd hi hti hex hun
   simp only[Qki,QGM]at hB
   have h1:=QHa.1 hB.1 i (QHg.2 hi)
   rw[hti,hex,QIU,QIU]at h1
   obtain⟨j,hj,hj2⟩:=QHV.1 h1
   simp only[QGM,QH4,beq_iff_eq,decide_eq_true_eq,QHs]at hj2
   obtain⟨hjt,hw⟩:=hj2
   obtain⟨oj,hoj,e,he,hb,hon⟩:=Qgb hw
   have hjl:listed.getD j false=false:=by
    cases hl:listed.getD j false with
    | false=>rfl
    | true=>
      have h2:=hc.2 j oj hoj hl e he hb
      rw[hon,Qb3 hun]at h2
      cases h2
   rcases hjt with hjt|⟨⟨hjt,hje⟩,hij⟩
   ·subst hjt
    refine⟨hjl,fun hr=>?_⟩
    obtain⟨_,o',ho',hall⟩:=mem_ready.1 hr
    have:o'=oj:=Option.some.inj (ho'.symm.trans hoj)
    subst this
    have h2:=hall e he hb
    rw[hon,Qb3 hun]at h2
    cases h2
   ·have hjs:j<ops.size:=QHg.1 hj
    exact ih (ops.size-j) (by omega) j rfl hjs hjt hje (Qib (by rw[hc.1];exact hjs) hjl)
theorem Qec {listed:Array Bool} (hc:Closed ops listed):∀(r:List Nat) (t:Nat),(List.zip (t :: r) r).all (fun (p,q)=>Qio ops q p)=true→
 listed.getD t false=false→t∉Region.ready .any ops listed→∀k∈t :: r,k∉Region.ready .any ops listed
 | [],t,_,_,hr,k,hk=>by
   have:k=t:=by simpa using hk
   subst this
   exact hr
 | u :: r,t,hz,hl,hr,k,hk=>by
   simp only[List.zip_cons_cons,QHT,QGM]at hz
   rcases QGJ.1 hk with rfl|hk
   ·exact hr
   obtain⟨ou,hou,e,he,hb,hon⟩:=Qgb hz.1
   refine Qec hc r u hz.2 ?_ ?_ k hk
   ·cases hlu:listed.getD u false with
    | false=>rfl
    | true=>
      have h2:=hc.2 u ou hou hlu e he hb
      rw[hon,hl]at h2
      cases h2
   ·intro hru
    obtain⟨_,o',ho',hall⟩:=mem_ready.1 hru
    have:o'=ou:=Option.some.inj (ho'.symm.trans hou)
    subst this
    have h2:=hall e he hb
    rw[hon,hl]at h2
    cases h2
theorem QxT {o:Oper} {ρ:Operand→Value} {w w':World} {v:Value} (h:bare o=true) (hr:(execOp ρ o).run P w= .ok (.value v) w):(execOp ρ o).run P w'= .ok (.value v) w':=by
 obtain⟨dst,op,type,pos,after,guard⟩:=o
 cases op
 case move x=>simp only[execOp,Sem.run_pure]at hr ⊢;cases hr;rfl
 case assign x=>simp only[execOp,Sem.run_pure]at hr ⊢;cases hr;rfl
 case extract t i=>
  simp only[execOp,Sem.run_bind]at hr ⊢
  unfold Instr.extract at hr ⊢
  split at hr
  ·split at hr
   ·simp only[Sem.run_pure,Result.andThen_ok]at hr ⊢;cases hr;rfl
   ·simp[stuck]at hr
  ·simp[stuck]at hr
 all_goals (simp only[bare]at h;cases h)
theorem Qpo {o:Oper} {a:Act} {v:Value} (h:bare o=true) (hy:YieldsIf P ops (Later w0) o v a):YieldsIf P ops (fun _=>True) o v a:=
 hy.imp (fun ⟨hw,hv⟩=>⟨hw,fun _ _=>QxT h (hv w0 (Later.refl w0))⟩) id
theorem Qen {S:World→Prop} {tl:Nat→Bool} {i:Nat} {oi:Oper} {v:Value} (hi:ops[i]?=some oi) (hsel:∀(j:Nat) (o:Oper) cs b,ops[j]?=some o→o.op≠ .select cs b)
 (hQ:∀c a w,Q (.panic c) (a.put oi.dst v) w→Q (.panic c) a w)
 (hSt:∀(listed:Array Bool) (j:Nat) (w w':World),Closed ops listed→i∈Region.ready .any ops listed→j∈Region.ready .any ops listed→j≠i→(tl j=false→Later w w')→S w→S w'):
 ∀(fuel:Nat) (listed:Array Bool) (a:Act) (w:World),Closed ops listed→
  (∀ j oj,ops[j]?=some oj→j≠i→listed.getD j true=false→(∀ e∈oj.after,Region.binds .any e=true→e.on≠i)→oi.apart ops oj=true)→
  i∈Region.ready .any ops listed→YieldsIf P ops S oi v a→S w→
  QdV P ops Q tl fuel (listed.setIfInBounds i true) (a.put oi.dst v) w→QdV P ops Q tl (fuel+1) listed a w:=by
 intro fuel
 induction fuel with
 | zero=>
   intro listed a w _ _ hr hy hS H
   refine⟨fun h=>(by rw[h]at hr;cases hr),fun j hj=>?_⟩
   by_cases hji:j=i
   ·subst hji;exact hy.wpOp hi hS ⟨fun _=>Later.refl _,H⟩
   ·have:=ready_mono hj hji
    rw[H.1]at this
    cases this
 | succ fuel ih=>
   intro listed a w hcl hfree hr hy hS H
   refine⟨fun h=>(by rw[h]at hr;cases hr),fun j hj=>?_⟩
   by_cases hji:j=i
   ·subst hji;exact hy.wpOp hi hS ⟨fun _=>Later.refl _,H⟩
   ·have h1:=H.2 j (ready_mono hj hji)
    obtain⟨hjun,oj,hoj,hall⟩:=mem_ready.1 hj
    have hiun:=(mem_ready.1 hr).1
    have hnot:∀e∈oj.after,Region.binds .any e=true→e.on≠i:=fun e he hb heq=>by
     have h1:=hall e he hb
     rw[heq,Qb3 hiun]at h1
     cases h1
    have h2:=wpOp_putIf hoj (hfree j oj hoj hji hjun hnot) (fun cs b=>hsel i oi cs b hi) (fun cs b=>hsel j oj cs b hoj) hQ hy h1
    have hfree':∀k ok,ops[k]?=some ok→k≠i→(listed.setIfInBounds j true).getD k true=false→
     (∀ e∈ok.after,Region.binds .any e=true→e.on≠i)→oi.apart ops ok=true:=fun k ok hk hki hun hno=>by
     refine hfree k ok hk hki ?_ hno
     by_cases hjk:j=k
     ·subst hjk;exact hjun
     ·rw[getD_set_ne true hjk]at hun;exact hun
    refine wpOp_mono (fun a' w' h3=>⟨h3.2.1,ih (listed.setIfInBounds j true) a' w' (hcl.set hj) hfree' (ready_mono hr (Ne.symm hji)) h3.1 (hSt listed j w w' hcl hr hj hji h3.2.1 hS) ?_⟩) h2
    rw[Array.setIfInBounds_comm _ _ hji]
    exact h3.2.2
theorem Qz2 {ts:List Nat} (hT:Qki ops ts=true) {i:Nat} (hti:ts.contains i=false) (hex:QhL ops ts i=false) {listed:Array Bool} (hcl:Closed ops listed) (hr:i∈Region.ready .any ops listed)
 {j:Nat} (hj:j∈Region.ready .any ops listed):ts.contains j=false:=by
 obtain⟨hiun,oi,hi,_⟩:=mem_ready.1 hr
 cases htj:ts.contains j with
 | false=>rfl
 | true=>
   cases ts with
   | nil=>simp at htj
   | cons t r=>
     have hin:i<ops.size:=(Array.getElem?_eq_some_iff.1 hi).1
     obtain⟨h3,h4⟩:=Qkd hT hcl _ i rfl hin hti hex hiun
     simp only[Qki,QGM]at hT
     exact absurd hj (Qec hcl r t hT.2 h3 h4 j (by simpa using htj))
theorem QfX {ts:List Nat} (hT:Qki ops ts=true) {i:Nat} {oi:Oper} {v:Value} (hi:ops[i]?=some oi) (hti:ts.contains i=false)
 (hsel:∀(j:Nat) (o:Oper) cs b,ops[j]?=some o→o.op≠ .select cs b) (hQ:∀c a w,Q (.panic c) (a.put oi.dst v) w→Q (.panic c) a w)
 {fuel:Nat} {listed:Array Bool} {a:Act} {w:World} (hcl:Closed ops listed)
 (hfree:∀j oj,ops[j]?=some oj→j≠i→listed.getD j true=false→(∀ e∈oj.after,Region.binds .any e=true→e.on≠i)→oi.apart ops oj=true)
 (hr:i∈Region.ready .any ops listed) (hy:YieldsIf P ops (Later w) oi v a)
 (H:QdV P ops Q ts.contains fuel (listed.setIfInBounds i true) (a.put oi.dst v) w):QdV P ops Q ts.contains (fuel+1) listed a w:=by
 cases hex:QhL ops ts i with
 | true=>
   have hb:bare oi=true:=by
    simp only[QhL,hi,QH9,QIl,QGM]at hex
    exact hex.1
   exact Qen (S:=fun _=>True) hi hsel hQ (fun _ _ _ _ _ _ _ _ _ _=>trivial) fuel listed a w hcl hfree hr (Qpo hb hy) trivial H
 | false=>
   exact Qen (S:=Later w) hi hsel hQ (fun listed j w w' hcl hr hj _ h hS=>hS.trans (h (Qz2 hT hti hex hcl hr hj))) fuel listed a w hcl hfree hr hy (Later.refl _) H
def QjH (P:Program) (ops:Array Oper) (Q:Exit→Act→World→Prop) (tl:Nat→Bool):List (Nat×Bool)→Act→World→Prop
 | [],a,w=>Q .normal a w
 | (i,true) :: r,a,w=>∃o,ops[i]?=some o∧if Region.wanted o (yielded ops a.tmps) then o.quiet P a (Later w) (fun a'=>QjH P ops Q tl r a' w) else QjH P ops Q tl r (a.put o.dst undef) w
 | (i,false) :: r,a,w=>wpOp P ops Q i (fun a' w'=>(tl i=false→Later w w')∧QjH P ops Q tl r a' w') a w
def seqB (ops:Array Oper) (tl:Nat→Bool):List (Nat×Bool)→Array Bool→Bool
 | [],listed=>(Region.ready .any ops listed).isEmpty
 | (i,true) :: r,listed=>(Region.ready .any ops listed).contains i&&Region.free .any ops listed i&&((ops[i]?).map calm).getD false&& !tl i&&seqB ops tl r (listed.setIfInBounds i true)
 | (i,false) :: r,listed=>decide (Region.ready .any ops listed=[i])&&seqB ops tl r (listed.setIfInBounds i true)
theorem Qe9 {ts:List Nat} (hT:Qki ops ts=true) (hs:Region.noSelect ops=true) (hQ:∀c a d v w,Q (.panic c) (a.put d v) w→Q (.panic c) a w):
 ∀(l:List (Nat×Bool)) (listed:Array Bool) (a:Act) (w:World),Closed ops listed→seqB ops ts.contains l listed=true→
  QjH P ops Q ts.contains l a w→QdV P ops Q ts.contains l.length listed a w
 | [],_,_,_,_,hB,h=>⟨by simpa [seqB] using hB,h⟩
 | (i,true) :: r,listed,a,w,hcl,hB,h=>by
   simp only[seqB,QGM]at hB
   obtain⟨⟨⟨⟨hr,hf⟩,hcm⟩,htl⟩,hB'⟩:=hB
   obtain⟨o,ho,h⟩:=h
   have hr':i∈Region.ready .any ops listed:=by simpa using hr
   have hcm':calm o=true:=by simpa [ho] using hcm
   have htl':ts.contains i=false:=by simpa using htl
   have next:∀v,YieldsIf P ops (Later w) o v a→QjH P ops Q ts.contains r (a.put o.dst v) w→QdV P ops Q ts.contains (r.length+1) listed a w:=fun v hy hn=>
    QfX hT ho htl' (Region.noSelect_spec hs) (fun c a w=>hQ c a _ _ w) hcl (Region.free_spec ho hf) hr' hy
     (Qe9 hT hs hQ r _ _ w (hcl.set hr') hB' hn)
   by_cases hw:Region.wanted o (yielded ops a.tmps)=true
   ·rw[if_pos hw]at h
    obtain⟨v,hy,hn⟩:=Qdn hcm' hw h
    exact next v hy hn
   ·rw[if_neg hw]at h
    exact next undef (.inr ⟨by simpa using hw,rfl⟩) h
 | (i,false) :: r,listed,a,w,hcl,hB,h=>by
   simp only[seqB,QGM,decide_eq_true_eq]at hB
   obtain⟨hr,hB'⟩:=hB
   refine⟨fun h0=>(by rw[hr]at h0;cases h0),fun j hj=>?_⟩
   rw[hr]at hj
   obtain rfl:j=i:=by simpa using hj
   exact wpOp_mono (fun a' w' h3=>⟨h3.1,Qe9 hT hs hQ r _ a' w' (hcl.set (by rw[hr];simp)) hB' h3.2⟩) h
def pick:List Oper→List Nat→List Oper
 | _,[]=>[]
 | l,i :: r=>(l[i]?).toList++pick l r
theorem Qey {l:List Oper} {Qa:Act→Prop} {r:List (Nat×Bool)} {tl:Nat→Bool} {w:World} (hQa:∀a,Qa a→QjH P l.toArray Q tl r a w):∀(qs:List Nat),(qs.all fun i=>decide (i<l.length))=true→
 ∀a,wpQuiet P l.toArray (Later w) Qa (pick l qs) a→QjH P l.toArray Q tl (qs.map (·,true)++r) a w
 | [],_,a,h=>hQa a h
 | i :: qs,hb,a,h=>by
   simp only[QHT,QGM,decide_eq_true_eq]at hb
   have hi:l[i]?=some (l[i]'hb.1):=QGt hb.1
   refine⟨l[i]'hb.1,by simp[hb.1],?_⟩
   simp only[pick,hi,QGs,QIo,wpQuiet]at h
   by_cases hw:Region.wanted (l[i]'hb.1) (yielded l.toArray a.tmps)=true
   ·rw[if_pos hw]at h ⊢
    exact Oper.quiet_mono (fun a' h'=>Qey hQa qs hb.2 a' h') h
   ·rw[if_neg hw]at h ⊢
    exact Qey hQa qs hb.2 _ h
theorem QcS {l:List Oper} {i:Nat} (hi:i<l.length) {K:Act→World→Prop} {a:Act} {w:World} (h:wpList P l.toArray (Exit.then K Q) (pick l [i]) a w):wpOp P l.toArray Q i K a w:=by
 have hi':l[i]?=some (l[i]'hi):=QGt hi
 simp only[pick,hi',QGs,QGW,wpList]at h
 have hk:∀a w,wpList P l.toArray (Exit.then K Q) [] a w→K a w:=fun a w h=>h
 unfold wpOp
 simp only[List.getElem?_toArray,hi']
 by_cases hw:Region.wanted (l[i]'hi) (yielded l.toArray a.tmps)=true
 ·rw[if_pos hw]at h ⊢
  rcases h with h|⟨h1,h2⟩
  ·left
   have h:=Oper.wp_mono hk h
   unfold Oper.wp at h ⊢
   generalize (execOp a.eval (l[i]'hi)).run P w=r at h ⊢
   cases r with
   | ok n w'=>
     cases n<;>simp only[Oper.upon]at h ⊢ <;>first
      | exact h
      | exact Calls.mono h (fun e w'' he=>(by cases e<;>exact he))
   | halt x w'=>cases x<;>simp only[Oper.upon]at h ⊢;exact h
  ·exact .inr ⟨h1,h2⟩
 ·rw[if_neg hw]at h ⊢
  exact h
theorem Qgw {l:List Oper} {tl:Nat→Bool}:∀(ts:List Nat),(ts.all fun i=>decide (i<l.length)&&tl i)=true→
 ∀a w,wpList P l.toArray Q (pick l ts) a w→QjH P l.toArray Q tl (ts.map (·,false)) a w
 | [],_,a,w,h=>h
 | i :: ts,hb,a,w,h=>by
   simp only[QHT,QGM,decide_eq_true_eq]at hb
   have hi:l[i]?=some (l[i]'hb.1.1):=QGt hb.1.1
   simp only[pick,hi,QGs,QIo,wpList]at h
   show wpOp P l.toArray Q i _ a w
   unfold wpOp
   simp only[List.getElem?_toArray,hi]
   have hn:∀a w1,wpList P l.toArray Q (pick l ts) a w1→(tl i=false→Later w w1)∧QjH P l.toArray Q tl (ts.map (·,false)) a w1:=fun a w1 h=>
    ⟨fun h0=>(by rw[hb.1.2]at h0;cases h0),Qgw ts hb.2 a w1 h⟩
   by_cases hw:Region.wanted (l[i]'hb.1.1) (yielded l.toArray a.tmps)=true
   ·rw[if_pos hw]at h ⊢
    exact h.imp (Oper.wp_mono hn) id
   ·rw[if_neg hw]at h ⊢
    exact hn _ _ h
def Qaj (P:Program) (l:List Oper) (Q:Exit→Act→World→Prop) (qs ts:List Nat):List (List Nat×Nat)→Act→World→Prop
 | [],a,w=>wpQuiet P l.toArray (fun w'=>∃x,w'=grow w x) (fun a'=>wpList P l.toArray Q (pick l ts) a' w) (pick l qs) a
 | (q,i) :: r,a,w=>wpQuiet P l.toArray (fun w'=>∃x,w'=grow w x) (fun a'=>wpList P l.toArray (Exit.then (fun a'' w''=>Later w w''∧Qaj P l Q qs ts r a'' w'') Q) (pick l [i]) a' w) (pick l q) a
def flat (qs ts:List Nat):List (List Nat×Nat)→List (Nat×Bool)
 | []=>qs.map (·,true)++ts.map (·,false)
 | (q,i) :: r=>q.map (·,true)++(i,false) :: flat qs ts r
def Qzt (l:List Oper) (qs ts:List Nat) (segs:List (List Nat×Nat)):Bool:=
 Region.noSelect l.toArray&&Qki l.toArray ts&&(qs.all fun i=>decide (i<l.length))&&(ts.all fun i=>decide (i<l.length)&&ts.contains i)&&(segs.all fun s=>decide (s.2<l.length)&&s.1.all fun i=>decide (i<l.length)) &&
 seqB l.toArray ts.contains (flat qs ts segs) (QIa l.length false)&&decide ((flat qs ts segs).length=l.length)
theorem Qic {l:List Oper} {qs ts:List Nat} (hq:(qs.all fun i=>decide (i<l.length))=true) (ht:(ts.all fun i=>decide (i<l.length)&&ts.contains i)=true):
 ∀(segs:List (List Nat×Nat)),(segs.all fun s=>decide (s.2<l.length)&&s.1.all fun i=>decide (i<l.length))=true→∀a w,Qaj P l Q qs ts segs a w→QjH P l.toArray Q ts.contains (flat qs ts segs) a w
 | [],_,a,w,h=>Qey (fun a h=>Qgw ts ht a w h) qs hq a h
 | (q,i) :: r,hb,a,w,h=>by
   simp only[QHT,QGM,decide_eq_true_eq]at hb
   refine Qey (fun a h=>?_) q hb.1.2 a h
   exact wpOp_mono (fun a' w' h'=>⟨fun _=>h'.1,Qic hq ht r hb.2 a' w' h'.2⟩) (QcS hb.1.1 h)
theorem QfF (l:List Oper):Closed l.toArray (QIa l.length false):=⟨by simp,fun j oj hj hl=>by
 rcases QHb j l.length with h|h
 ·simp[h]at hl
 ·simp[h]at hl⟩
theorem Qaf {id:Nat} {a:Act} {w:World} {l:List Oper} (segs:List (List Nat×Nat)) (qs ts:List Nat) (hm:P.follows .mixedOrders=true) (hB:Qzt l qs ts segs=true)
 (hQ:∀c a d v w,Q (.panic c) (a.put d v) w→Q (.panic c) a w) (h:Qaj P l Q qs ts segs a w.drew):(Code.region id l.toArray true).wp P Q a w:=by
 simp only[Qzt,QGM,decide_eq_true_eq]at hB
 obtain⟨⟨⟨⟨⟨⟨hs,hT⟩,hq⟩,ht⟩,hsg⟩,hsq⟩,hlen⟩:=hB
 refine wp_region_any hm (Qf5 (tl:=ts.contains) _ _ _ _ ?_)
 have:=Qe9 hT hs hQ (flat qs ts segs) (QIa l.length false) a w.drew (QfF l) hsq (Qic hq ht segs hsg a _ h)
 rw[hlen]at this
 simpa using this
end
def W8 (x:UInt8):Value:=.int .u8 (x.toNat:Int)
def W32 (x:UInt32):Value:=.int .u32 (x.toNat:Int)
def W64 (x:UInt64):Value:=.int .u64 (x.toNat:Int)
theorem QdR (n:Int):IntKind.u8.wrap n=n%256:=by simp[IntKind.wrap,IntKind.bits,IntKind.signed]
theorem QcU (n:Int):IntKind.u32.wrap n=n%4294967296:=by simp[IntKind.wrap,IntKind.bits,IntKind.signed]
theorem QcV (n:Int):IntKind.u64.wrap n=n%18446744073709551616:=by simp[IntKind.wrap,IntKind.bits,IntKind.signed]
theorem Qbe {k:Nat} (x:BitVec k):QHR k (x.toNat:Int)=x:=by
 apply BitVec.eq_of_toNat_eq
 simp
theorem QlS (x:UInt8):((x.toNat:Int)%256)=x.toNat:=by have:=x.toNat_lt;omega
theorem Qjb (x:UInt32):((x.toNat:Int)%4294967296)=x.toNat:=by have:=x.toNat_lt;omega
theorem QiO (x:UInt64):((x.toNat:Int)%18446744073709551616)=x.toNat:=by have:=x.toNat_lt;omega
def cnt (n:UInt64):Nat:=n.toNat
theorem Qbg (T:TypeId) (ox oy:Operand) (op:BinOp) (k k':IntKind) (x y:Int):eqGuard op T ox oy (.int k x) (.int k' y)=pure ():=by
 cases op<;>rfl
def shl8 (x:UInt8) (n:Nat):UInt8:=⟨x.toBitVec <<< n⟩
def shr8 (x:UInt8) (n:Nat):UInt8:=⟨x.toBitVec >>> n⟩
theorem QgJ {x:UInt8} {n:Int} (h:(x.toNat:Int)=n):Value.int .u8 n=W8 x:=by rw[W8,h]
section
variable (T:TypeId) (ox oy:Operand)
@[go_sem] theorem QCc (op:BinOp) (x y:UInt8):eqGuard op T ox oy (W8 x) (W8 y)=pure ():=Qbg ..
@[go_sem] theorem QAF (op:BinOp) (x:UInt8) (k:IntKind) (y:Int):eqGuard op T ox oy (W8 x) (.int k y)=pure ():=Qbg ..
@[go_sem] theorem QB4 (op:BinOp) (x:UInt8) (k:IntKind) (y:Int):eqGuard op T ox oy (.int k y) (W8 x)=pure ():=Qbg ..
theorem QbW (n:Int) (h0:0≤n) (h1:n<256):Value.int .u8 n=W8 (QG3 n.toNat):=by
 apply QgJ
 rw[QHy]
 omega
theorem Qqk (n:Int):(QG4 n).toNat=(n%256).toNat:=by
 simp[QG4,QHy]
 try omega
theorem QAU (n:Int):Value.int .u8 (IntKind.wrap .u8 n)=W8 (QG4 n):=by
 apply QgJ
 rw[QdR]
 have:=Qqk n
 omega
@[go_sem] theorem QzW (x y:UInt8):binOp .add T (W8 x) (W8 y)=pure (W8 (x+y)):=by
  show binOp .add T (.int .u8 x.toNat) (.int .u8 y.toNat)=_
  rw[binOp_add]
  simp only[Op.intArith]
  rw[QgJ (x:=x+y)]
  rw[QdR,UInt8.toNat_add]
  omega
@[go_sem] theorem QF4 (x:UInt8) (n:Int) (h0:0≤n) (h1:n<256):binOp .add T (W8 x) (.int .u8 n)=pure (W8 (x+QG3 n.toNat)):=by
  rw[QbW n h0 h1]
  exact QzW T x _
@[go_sem] theorem QFD (y:UInt8) (n:Int) (h0:0≤n) (h1:n<256):binOp .add T (.int .u8 n) (W8 y)=pure (W8 (QG3 n.toNat+y)):=by
  rw[QbW n h0 h1]
  exact QzW T _ y
@[go_sem] theorem Qzh (x y:UInt8):binOp .sub T (W8 x) (W8 y)=pure (W8 (x-y)):=by
  show binOp .sub T (.int .u8 x.toNat) (.int .u8 y.toNat)=_
  rw[binOp_sub]
  simp only[Op.intArith]
  rw[QgJ (x:=x-y)]
  rw[QdR,UInt8.toNat_sub]
  have:=y.toNat_lt
  omega
@[go_sem] theorem QFy (x:UInt8) (n:Int) (h0:0≤n) (h1:n<256):binOp .sub T (W8 x) (.int .u8 n)=pure (W8 (x-QG3 n.toNat)):=by
  rw[QbW n h0 h1]
  exact Qzh T x _
@[go_sem] theorem QFb (y:UInt8) (n:Int) (h0:0≤n) (h1:n<256):binOp .sub T (.int .u8 n) (W8 y)=pure (W8 (QG3 n.toNat-y)):=by
  rw[QbW n h0 h1]
  exact Qzh T _ y
@[go_sem] theorem Qy9 (x y:UInt8):binOp .mul T (W8 x) (W8 y)=pure (W8 (x*y)):=by
  show binOp .mul T (.int .u8 x.toNat) (.int .u8 y.toNat)=_
  rw[binOp_mul]
  simp only[Op.intArith]
  rw[QgJ (x:=x*y)]
  rw[QdR,UInt8.toNat_mul,←QIi]
  omega
@[go_sem] theorem QFl (x:UInt8) (n:Int) (h0:0≤n) (h1:n<256):binOp .mul T (W8 x) (.int .u8 n)=pure (W8 (x*QG3 n.toNat)):=by
  rw[QbW n h0 h1]
  exact Qy9 T x _
@[go_sem] theorem QGc (y:UInt8) (n:Int) (h0:0≤n) (h1:n<256):binOp .mul T (.int .u8 n) (W8 y)=pure (W8 (QG3 n.toNat*y)):=by
  rw[QbW n h0 h1]
  exact Qy9 T _ y
@[go_sem] theorem Qzu (x y:UInt8):binOp .and T (W8 x) (W8 y)=pure (W8 (x &&& y)):=by
  show binOp .and T (.int .u8 x.toNat) (.int .u8 y.toNat)=_
  rw[binOp_and]
  simp only[Op.intBits]
  rw[QgJ (x:=x &&& y)]
  have e1:QHR (IntKind.bits .u8) (x.toNat:Int)=x.toBitVec:=Qbe x.toBitVec
  have e2:QHR (IntKind.bits .u8) (y.toNat:Int)=y.toBitVec:=Qbe y.toBitVec
  rw[e1,e2,QdR]
  exact (QlS (x &&& y)).symm
@[go_sem] theorem QFs (x:UInt8) (n:Int) (h0:0≤n) (h1:n<256):binOp .and T (W8 x) (.int .u8 n)=pure (W8 (x &&& QG3 n.toNat)):=by
  rw[QbW n h0 h1]
  exact Qzu T x _
@[go_sem] theorem QFO (y:UInt8) (n:Int) (h0:0≤n) (h1:n<256):binOp .and T (.int .u8 n) (W8 y)=pure (W8 (QG3 n.toNat &&& y)):=by
  rw[QbW n h0 h1]
  exact Qzu T _ y
@[go_sem] theorem QCM (x y:UInt8):binOp .or T (W8 x) (W8 y)=pure (W8 (x ||| y)):=by
  show binOp .or T (.int .u8 x.toNat) (.int .u8 y.toNat)=_
  rw[binOp_or]
  simp only[Op.intBits]
  rw[QgJ (x:=x ||| y)]
  have e1:QHR (IntKind.bits .u8) (x.toNat:Int)=x.toBitVec:=Qbe x.toBitVec
  have e2:QHR (IntKind.bits .u8) (y.toNat:Int)=y.toBitVec:=Qbe y.toBitVec
  rw[e1,e2,QdR]
  exact (QlS (x ||| y)).symm
@[go_sem] theorem QGi (x:UInt8) (n:Int) (h0:0≤n) (h1:n<256):binOp .or T (W8 x) (.int .u8 n)=pure (W8 (x ||| QG3 n.toNat)):=by
  rw[QbW n h0 h1]
  exact QCM T x _
@[go_sem] theorem QGf (y:UInt8) (n:Int) (h0:0≤n) (h1:n<256):binOp .or T (.int .u8 n) (W8 y)=pure (W8 (QG3 n.toNat ||| y)):=by
  rw[QbW n h0 h1]
  exact QCM T _ y
@[go_sem] theorem QzY (x y:UInt8):binOp .xor T (W8 x) (W8 y)=pure (W8 (x ^^^ y)):=by
  show binOp .xor T (.int .u8 x.toNat) (.int .u8 y.toNat)=_
  rw[binOp_xor]
  simp only[Op.intBits]
  rw[QgJ (x:=x ^^^ y)]
  have e1:QHR (IntKind.bits .u8) (x.toNat:Int)=x.toBitVec:=Qbe x.toBitVec
  have e2:QHR (IntKind.bits .u8) (y.toNat:Int)=y.toBitVec:=Qbe y.toBitVec
  rw[e1,e2,QdR]
  exact (QlS (x ^^^ y)).symm
@[go_sem] theorem QFe (x:UInt8) (n:Int) (h0:0≤n) (h1:n<256):binOp .xor T (W8 x) (.int .u8 n)=pure (W8 (x ^^^ QG3 n.toNat)):=by
  rw[QbW n h0 h1]
  exact QzY T x _
@[go_sem] theorem QBG (y:UInt8) (n:Int) (h0:0≤n) (h1:n<256):binOp .xor T (.int .u8 n) (W8 y)=pure (W8 (QG3 n.toNat ^^^ y)):=by
  rw[QbW n h0 h1]
  exact QzY T _ y
@[go_sem] theorem Qzl (x y:UInt8):binOp .eql T (W8 x) (W8 y)=pure (.bool (x==y)):=by
  show binOp .eql T (.int .u8 x.toNat) (.int .u8 y.toNat)=_
  rw[binOp_eql]
  have:((x.toNat:Int)==(y.toNat:Int))=(x==y):=by
   rw[QHh,beq_iff_eq,beq_iff_eq,←QHl]
   omega
  simp only[this]
@[go_sem] theorem QFr (x:UInt8) (n:Int) (h0:0≤n) (h1:n<256):binOp .eql T (W8 x) (.int .u8 n)=pure (.bool (x==(QG3 n.toNat))):=by
  rw[QbW n h0 h1]
  exact Qzl T x _
@[go_sem] theorem QFj (y:UInt8) (n:Int) (h0:0≤n) (h1:n<256):binOp .eql T (.int .u8 n) (W8 y)=pure (.bool ((QG3 n.toNat)==y)):=by
  rw[QbW n h0 h1]
  exact Qzl T _ y
@[go_sem] theorem QzF (x y:UInt8):binOp .neq T (W8 x) (W8 y)=pure (.bool (x != y)):=by
  show binOp .neq T (.int .u8 x.toNat) (.int .u8 y.toNat)=_
  rw[binOp_neq]
  have:((x.toNat:Int)==(y.toNat:Int))=(x==y):=by
   rw[QHh,beq_iff_eq,beq_iff_eq,←QHl]
   omega
  simp only[bne,this]
@[go_sem] theorem QE9 (x:UInt8) (n:Int) (h0:0≤n) (h1:n<256):binOp .neq T (W8 x) (.int .u8 n)=pure (.bool (x != (QG3 n.toNat))):=by
  rw[QbW n h0 h1]
  exact QzF T x _
@[go_sem] theorem QF1 (y:UInt8) (n:Int) (h0:0≤n) (h1:n<256):binOp .neq T (.int .u8 n) (W8 y)=pure (.bool ((QG3 n.toNat) != y)):=by
  rw[QbW n h0 h1]
  exact QzF T _ y
@[go_sem] theorem Qzz (x y:UInt8):binOp .lss T (W8 x) (W8 y)=pure (.bool (decide (x<y))):=by
  show binOp .lss T (.int .u8 x.toNat) (.int .u8 y.toNat)=_
  rw[binOp_lss]
  congr 2
  rw[decide_eq_decide,QIp]
  omega
@[go_sem] theorem QE5 (x:UInt8) (n:Int) (h0:0≤n) (h1:n<256):binOp .lss T (W8 x) (.int .u8 n)=pure (.bool (decide (x<(QG3 n.toNat)))):=by
  rw[QbW n h0 h1]
  exact Qzz T x _
@[go_sem] theorem QF0 (y:UInt8) (n:Int) (h0:0≤n) (h1:n<256):binOp .lss T (.int .u8 n) (W8 y)=pure (.bool (decide ((QG3 n.toNat)<y))):=by
  rw[QbW n h0 h1]
  exact Qzz T _ y
@[go_sem] theorem Qy7 (x y:UInt8):binOp .leq T (W8 x) (W8 y)=pure (.bool (decide (x≤y))):=by
  show binOp .leq T (.int .u8 x.toNat) (.int .u8 y.toNat)=_
  rw[binOp_leq]
  congr 2
  rw[decide_eq_decide,UInt8.le_iff_toNat_le]
  omega
@[go_sem] theorem QFQ (x:UInt8) (n:Int) (h0:0≤n) (h1:n<256):binOp .leq T (W8 x) (.int .u8 n)=pure (.bool (decide (x≤(QG3 n.toNat)))):=by
  rw[QbW n h0 h1]
  exact Qy7 T x _
@[go_sem] theorem QFx (y:UInt8) (n:Int) (h0:0≤n) (h1:n<256):binOp .leq T (.int .u8 n) (W8 y)=pure (.bool (decide ((QG3 n.toNat)≤y))):=by
  rw[QbW n h0 h1]
  exact Qy7 T _ y
@[go_sem] theorem Qzy (x y:UInt8):binOp .gtr T (W8 x) (W8 y)=pure (.bool (decide (y<x))):=by
  show binOp .gtr T (.int .u8 x.toNat) (.int .u8 y.toNat)=_
  rw[binOp_gtr]
  congr 2
  rw[decide_eq_decide,QIp]
  omega
@[go_sem] theorem QFR (x:UInt8) (n:Int) (h0:0≤n) (h1:n<256):binOp .gtr T (W8 x) (.int .u8 n)=pure (.bool (decide ((QG3 n.toNat)<x))):=by
  rw[QbW n h0 h1]
  exact Qzy T x _
@[go_sem] theorem QFc (y:UInt8) (n:Int) (h0:0≤n) (h1:n<256):binOp .gtr T (.int .u8 n) (W8 y)=pure (.bool (decide (y<(QG3 n.toNat)))):=by
  rw[QbW n h0 h1]
  exact Qzy T _ y
@[go_sem] theorem QyX (x y:UInt8):binOp .geq T (W8 x) (W8 y)=pure (.bool (decide (y≤x))):=by
  show binOp .geq T (.int .u8 x.toNat) (.int .u8 y.toNat)=_
  rw[binOp_geq]
  congr 2
  rw[decide_eq_decide,UInt8.le_iff_toNat_le]
  omega
@[go_sem] theorem QFG (x:UInt8) (n:Int) (h0:0≤n) (h1:n<256):binOp .geq T (W8 x) (.int .u8 n)=pure (.bool (decide ((QG3 n.toNat)≤x))):=by
  rw[QbW n h0 h1]
  exact QyX T x _
@[go_sem] theorem QFp (y:UInt8) (n:Int) (h0:0≤n) (h1:n<256):binOp .geq T (.int .u8 n) (W8 y)=pure (.bool (decide (y≤(QG3 n.toNat)))):=by
  rw[QbW n h0 h1]
  exact QyX T _ y
@[go_sem] theorem Qy0 (x y:UInt8) (hy: ¬((y).toNat:Int)=0):binOp .quo T (W8 x) (W8 y)=pure (W8 (x/y)):=by
  show binOp .quo T (.int .u8 x.toNat) (.int .u8 y.toNat)=_
  rw[binOp_quo]
  simp only[Op.intDiv]
  rw[if_neg hy,QgJ (x:=x/y)]
  rw[QdR,UInt8.toNat_div,Int.tdiv_eq_ediv_of_nonneg (by omega),←Int.natCast_ediv]
  have h1:=Nat.div_le_self x.toNat y.toNat
  have h2:=x.toNat_lt
  generalize x.toNat/y.toNat=q at *
  omega
@[go_sem] theorem QFt (x:UInt8) (n:Int) (h0:0≤n) (h1:n<256) (hy: ¬((QG3 n.toNat).toNat:Int)=0):binOp .quo T (W8 x) (.int .u8 n)=pure (W8 (x/(QG3 n.toNat))):=by
  rw[QbW n h0 h1]
  exact Qy0 T x _ hy
@[go_sem] theorem QF7 (y:UInt8) (n:Int) (h0:0≤n) (h1:n<256) (hy: ¬((y).toNat:Int)=0):binOp .quo T (.int .u8 n) (W8 y)=pure (W8 (QG3 n.toNat/y)):=by
  rw[QbW n h0 h1]
  exact Qy0 T _ y hy
@[go_sem] theorem QzR (x y:UInt8) (hy: ¬((y).toNat:Int)=0):binOp .rem T (W8 x) (W8 y)=pure (W8 (x%y)):=by
  show binOp .rem T (.int .u8 x.toNat) (.int .u8 y.toNat)=_
  rw[binOp_rem]
  simp only[Op.intDiv]
  rw[if_neg hy,QgJ (x:=x%y)]
  rw[UInt8.toNat_mod,QIc (by omega),←Int.natCast_emod]
@[go_sem] theorem QFM (x:UInt8) (n:Int) (h0:0≤n) (h1:n<256) (hy: ¬((QG3 n.toNat).toNat:Int)=0):binOp .rem T (W8 x) (.int .u8 n)=pure (W8 (x%(QG3 n.toNat))):=by
  rw[QbW n h0 h1]
  exact QzR T x _ hy
@[go_sem] theorem QE6 (y:UInt8) (n:Int) (h0:0≤n) (h1:n<256) (hy: ¬((y).toNat:Int)=0):binOp .rem T (.int .u8 n) (W8 y)=pure (W8 (QG3 n.toNat%y)):=by
  rw[QbW n h0 h1]
  exact QzR T _ y hy
theorem QtL (x:UInt8) (yk:IntKind) (n:Int) (h0:0≤n):binOp .shl T (W8 x) (.int yk n)=pure (W8 (shl8 x n.toNat)):=by
 show binOp .shl T (.int .u8 x.toNat) (.int yk n)=_
 rw[binOp_shl]
 simp only[Op.shift]
 rw[if_neg (by omega),QgJ (x:=shl8 x n.toNat)]
 have e:(shl8 x n.toNat).toNat=(x.toNat*2^n.toNat)%256:=by
  show (x.toBitVec <<< n.toNat).toNat=_
  rw[QIy,QIF]
  rfl
 rw[QdR,e]
 have hb:IntKind.bits .u8=8:=rfl
 rw[hb]
 rcases Nat.le_total n.toNat 8 with h|h
 ·rw[QHx h]
  have:((2:Int)^n.toNat)=((2^n.toNat:Nat):Int):=by simp
  rw[this,←QIi]
  omega
 ·rw[Nat.min_eq_right h]
  obtain⟨d,hd⟩:=Nat.exists_eq_add_of_le h
  have e1:x.toNat*2^n.toNat=256*(x.toNat*2^d):=by rw[hd,QHW];show x.toNat*(256*2^d)=_;rw[QIJ]
  rw[e1,Nat.mul_mod_right]
  omega
@[go_sem] theorem QGg (x:UInt8) (yk:IntKind) (n:Int):binOp .shl T (W8 x) (.int yk n)=if n<0 then runtimePanic (.error "negative shift amount") else pure (W8 (shl8 x n.toNat)):=by
  by_cases h:n<0
  ·rw[if_pos h]
   show binOp .shl T (.int .u8 x.toNat) (.int yk n)=_
   rw[binOp_shl]
   simp only[Op.shift]
   rw[if_pos h]
  ·rw[if_neg h]
   exact QtL T x yk n (by omega)
theorem Quy (x:UInt8) (yk:IntKind) (n:Int) (h0:0≤n):binOp .shr T (W8 x) (.int yk n)=pure (W8 (shr8 x n.toNat)):=by
 show binOp .shr T (.int .u8 x.toNat) (.int yk n)=_
 rw[binOp_shr]
 simp only[Op.shift]
 rw[if_neg (by omega),QgJ (x:=shr8 x n.toNat)]
 have e:(shr8 x n.toNat).toNat=x.toNat/2^n.toNat:=by
  show (x.toBitVec >>> n.toNat).toNat=_
  rw[QHz,QHv]
  rfl
 rw[e]
 have hb:IntKind.bits .u8=8:=rfl
 rw[hb]
 have hx:=x.toNat_lt
 have ep:∀m:Nat,((2:Int)^m)=((2^m:Nat):Int):=fun m=>by simp
 rw[ep,Int.fdiv_eq_ediv_of_nonneg _ (Int.natCast_nonneg _),←Int.natCast_ediv]
 rcases Nat.le_total n.toNat 8 with h|h
 ·rw[QHx h]
 ·rw[Nat.min_eq_right h]
  have h1:x.toNat/2^8=0:=QHm (by simpa using hx)
  have h2:x.toNat/2^n.toNat=0:=QHm (QGN (by simpa using hx) (QHt (by omega) h))
  rw[h1,h2]
@[go_sem] theorem QGh (x:UInt8) (yk:IntKind) (n:Int):binOp .shr T (W8 x) (.int yk n)=if n<0 then runtimePanic (.error "negative shift amount") else pure (W8 (shr8 x n.toNat)):=by
  by_cases h:n<0
  ·rw[if_pos h]
   show binOp .shr T (.int .u8 x.toNat) (.int yk n)=_
   rw[binOp_shr]
   simp only[Op.shift]
   rw[if_pos h]
  ·rw[if_neg h]
   exact Quy T x yk n (by omega)
@[go_sem] theorem QFY (x:UInt8) (n:UInt64):binOp .shl T (W8 x) (W64 n)=pure (W8 (shl8 x (cnt n))):=QtL T x .u64 n.toNat (by omega)
@[go_sem] theorem QFg (x:UInt8) (n:UInt64):binOp .shr T (W8 x) (W64 n)=pure (W8 (shr8 x (cnt n))):=Quy T x .u64 n.toNat (by omega)
@[go_sem] theorem Qzx (x:UInt8):Op.unary .xor (W8 x)=pure (W8 (~~~x)):=by
  have h:binOp .xor 0 (.int .u8 (255:Int)) (W8 x)=pure (W8 (~~~x)):=by
   rw[QBG 0 x 255 (by omega) (by omega)]
   congr 2
  exact h
end
def Qgj (x:UInt32) (n:Nat):UInt32:=⟨x.toBitVec <<< n⟩
def QcX (x:UInt32) (n:Nat):UInt32:=⟨x.toBitVec >>> n⟩
theorem Qd7 {x:UInt32} {n:Int} (h:(x.toNat:Int)=n):Value.int .u32 n=W32 x:=by rw[W32,h]
section
variable (T:TypeId) (ox oy:Operand)
@[go_sem] theorem QBf (op:BinOp) (x y:UInt32):eqGuard op T ox oy (W32 x) (W32 y)=pure ():=Qbg ..
@[go_sem] theorem Qy4 (op:BinOp) (x:UInt32) (k:IntKind) (y:Int):eqGuard op T ox oy (W32 x) (.int k y)=pure ():=Qbg ..
@[go_sem] theorem Qzv (op:BinOp) (x:UInt32) (k:IntKind) (y:Int):eqGuard op T ox oy (.int k y) (W32 x)=pure ():=Qbg ..
theorem Qbq (n:Int) (h0:0≤n) (h1:n<4294967296):Value.int .u32 n=W32 (QG5 n.toNat):=by
 apply Qd7
 rw[QIz]
 omega
theorem Qob (n:Int):(QIe n).toNat=(n%4294967296).toNat:=by
 simp[QIe,QIz]
 try omega
theorem Qx7 (n:Int):Value.int .u32 (IntKind.wrap .u32 n)=W32 (QIe n):=by
 apply Qd7
 rw[QcU]
 have:=Qob n
 omega
@[go_sem] theorem Qv6 (x y:UInt32):binOp .add T (W32 x) (W32 y)=pure (W32 (x+y)):=by
  show binOp .add T (.int .u32 x.toNat) (.int .u32 y.toNat)=_
  rw[binOp_add]
  simp only[Op.intArith]
  rw[Qd7 (x:=x+y)]
  rw[QcU,UInt32.toNat_add]
  omega
@[go_sem] theorem QEe (x:UInt32) (n:Int) (h0:0≤n) (h1:n<4294967296):binOp .add T (W32 x) (.int .u32 n)=pure (W32 (x+QG5 n.toNat)):=by
  rw[Qbq n h0 h1]
  exact Qv6 T x _
@[go_sem] theorem QEv (y:UInt32) (n:Int) (h0:0≤n) (h1:n<4294967296):binOp .add T (.int .u32 n) (W32 y)=pure (W32 (QG5 n.toNat+y)):=by
  rw[Qbq n h0 h1]
  exact Qv6 T _ y
@[go_sem] theorem Qus (x y:UInt32):binOp .sub T (W32 x) (W32 y)=pure (W32 (x-y)):=by
  show binOp .sub T (.int .u32 x.toNat) (.int .u32 y.toNat)=_
  rw[binOp_sub]
  simp only[Op.intArith]
  rw[Qd7 (x:=x-y)]
  rw[QcU,UInt32.toNat_sub]
  have:=y.toNat_lt
  omega
@[go_sem] theorem QEY (x:UInt32) (n:Int) (h0:0≤n) (h1:n<4294967296):binOp .sub T (W32 x) (.int .u32 n)=pure (W32 (x-QG5 n.toNat)):=by
  rw[Qbq n h0 h1]
  exact Qus T x _
@[go_sem] theorem QED (y:UInt32) (n:Int) (h0:0≤n) (h1:n<4294967296):binOp .sub T (.int .u32 n) (W32 y)=pure (W32 (QG5 n.toNat-y)):=by
  rw[Qbq n h0 h1]
  exact Qus T _ y
@[go_sem] theorem Qvz (x y:UInt32):binOp .mul T (W32 x) (W32 y)=pure (W32 (x*y)):=by
  show binOp .mul T (.int .u32 x.toNat) (.int .u32 y.toNat)=_
  rw[binOp_mul]
  simp only[Op.intArith]
  rw[Qd7 (x:=x*y)]
  rw[QcU,UInt32.toNat_mul,←QIi]
  omega
@[go_sem] theorem QEC (x:UInt32) (n:Int) (h0:0≤n) (h1:n<4294967296):binOp .mul T (W32 x) (.int .u32 n)=pure (W32 (x*QG5 n.toNat)):=by
  rw[Qbq n h0 h1]
  exact Qvz T x _
@[go_sem] theorem QEV (y:UInt32) (n:Int) (h0:0≤n) (h1:n<4294967296):binOp .mul T (.int .u32 n) (W32 y)=pure (W32 (QG5 n.toNat*y)):=by
  rw[Qbq n h0 h1]
  exact Qvz T _ y
@[go_sem] theorem Qvh (x y:UInt32):binOp .and T (W32 x) (W32 y)=pure (W32 (x &&& y)):=by
  show binOp .and T (.int .u32 x.toNat) (.int .u32 y.toNat)=_
  rw[binOp_and]
  simp only[Op.intBits]
  rw[Qd7 (x:=x &&& y)]
  have e1:QHR (IntKind.bits .u32) (x.toNat:Int)=x.toBitVec:=Qbe x.toBitVec
  have e2:QHR (IntKind.bits .u32) (y.toNat:Int)=y.toBitVec:=Qbe y.toBitVec
  rw[e1,e2,QcU]
  exact (Qjb (x &&& y)).symm
@[go_sem] theorem QD9 (x:UInt32) (n:Int) (h0:0≤n) (h1:n<4294967296):binOp .and T (W32 x) (.int .u32 n)=pure (W32 (x &&& QG5 n.toNat)):=by
  rw[Qbq n h0 h1]
  exact Qvh T x _
@[go_sem] theorem QD7 (y:UInt32) (n:Int) (h0:0≤n) (h1:n<4294967296):binOp .and T (.int .u32 n) (W32 y)=pure (W32 (QG5 n.toNat &&& y)):=by
  rw[Qbq n h0 h1]
  exact Qvh T _ y
@[go_sem] theorem Qze (x y:UInt32):binOp .or T (W32 x) (W32 y)=pure (W32 (x ||| y)):=by
  show binOp .or T (.int .u32 x.toNat) (.int .u32 y.toNat)=_
  rw[binOp_or]
  simp only[Op.intBits]
  rw[Qd7 (x:=x ||| y)]
  have e1:QHR (IntKind.bits .u32) (x.toNat:Int)=x.toBitVec:=Qbe x.toBitVec
  have e2:QHR (IntKind.bits .u32) (y.toNat:Int)=y.toBitVec:=Qbe y.toBitVec
  rw[e1,e2,QcU]
  exact (Qjb (x ||| y)).symm
@[go_sem] theorem QE4 (x:UInt32) (n:Int) (h0:0≤n) (h1:n<4294967296):binOp .or T (W32 x) (.int .u32 n)=pure (W32 (x ||| QG5 n.toNat)):=by
  rw[Qbq n h0 h1]
  exact Qze T x _
@[go_sem] theorem QFW (y:UInt32) (n:Int) (h0:0≤n) (h1:n<4294967296):binOp .or T (.int .u32 n) (W32 y)=pure (W32 (QG5 n.toNat ||| y)):=by
  rw[Qbq n h0 h1]
  exact Qze T _ y
@[go_sem] theorem Qwv (x y:UInt32):binOp .xor T (W32 x) (W32 y)=pure (W32 (x ^^^ y)):=by
  show binOp .xor T (.int .u32 x.toNat) (.int .u32 y.toNat)=_
  rw[binOp_xor]
  simp only[Op.intBits]
  rw[Qd7 (x:=x ^^^ y)]
  have e1:QHR (IntKind.bits .u32) (x.toNat:Int)=x.toBitVec:=Qbe x.toBitVec
  have e2:QHR (IntKind.bits .u32) (y.toNat:Int)=y.toBitVec:=Qbe y.toBitVec
  rw[e1,e2,QcU]
  exact (Qjb (x ^^^ y)).symm
@[go_sem] theorem QEw (x:UInt32) (n:Int) (h0:0≤n) (h1:n<4294967296):binOp .xor T (W32 x) (.int .u32 n)=pure (W32 (x ^^^ QG5 n.toNat)):=by
  rw[Qbq n h0 h1]
  exact Qwv T x _
@[go_sem] theorem Qxq (y:UInt32) (n:Int) (h0:0≤n) (h1:n<4294967296):binOp .xor T (.int .u32 n) (W32 y)=pure (W32 (QG5 n.toNat ^^^ y)):=by
  rw[Qbq n h0 h1]
  exact Qwv T _ y
@[go_sem] theorem Qo1 (x y:UInt32):binOp .eql T (W32 x) (W32 y)=pure (.bool (x==y)):=by
  show binOp .eql T (.int .u32 x.toNat) (.int .u32 y.toNat)=_
  rw[binOp_eql]
  have:((x.toNat:Int)==(y.toNat:Int))=(x==y):=by
   rw[QHh,beq_iff_eq,beq_iff_eq,←QIV]
   omega
  simp only[this]
@[go_sem] theorem QEZ (x:UInt32) (n:Int) (h0:0≤n) (h1:n<4294967296):binOp .eql T (W32 x) (.int .u32 n)=pure (.bool (x==(QG5 n.toNat))):=by
  rw[Qbq n h0 h1]
  exact Qo1 T x _
@[go_sem] theorem QEL (y:UInt32) (n:Int) (h0:0≤n) (h1:n<4294967296):binOp .eql T (.int .u32 n) (W32 y)=pure (.bool ((QG5 n.toNat)==y)):=by
  rw[Qbq n h0 h1]
  exact Qo1 T _ y
@[go_sem] theorem Qvv (x y:UInt32):binOp .neq T (W32 x) (W32 y)=pure (.bool (x != y)):=by
  show binOp .neq T (.int .u32 x.toNat) (.int .u32 y.toNat)=_
  rw[binOp_neq]
  have:((x.toNat:Int)==(y.toNat:Int))=(x==y):=by
   rw[QHh,beq_iff_eq,beq_iff_eq,←QIV]
   omega
  simp only[bne,this]
@[go_sem] theorem QEW (x:UInt32) (n:Int) (h0:0≤n) (h1:n<4294967296):binOp .neq T (W32 x) (.int .u32 n)=pure (.bool (x != (QG5 n.toNat))):=by
  rw[Qbq n h0 h1]
  exact Qvv T x _
@[go_sem] theorem QEM (y:UInt32) (n:Int) (h0:0≤n) (h1:n<4294967296):binOp .neq T (.int .u32 n) (W32 y)=pure (.bool ((QG5 n.toNat) != y)):=by
  rw[Qbq n h0 h1]
  exact Qvv T _ y
@[go_sem] theorem Qtt (x y:UInt32):binOp .lss T (W32 x) (W32 y)=pure (.bool (decide (x<y))):=by
  show binOp .lss T (.int .u32 x.toNat) (.int .u32 y.toNat)=_
  rw[binOp_lss]
  congr 2
  rw[decide_eq_decide,UInt32.lt_iff_toNat_lt]
  omega
@[go_sem] theorem QEx (x:UInt32) (n:Int) (h0:0≤n) (h1:n<4294967296):binOp .lss T (W32 x) (.int .u32 n)=pure (.bool (decide (x<(QG5 n.toNat)))):=by
  rw[Qbq n h0 h1]
  exact Qtt T x _
@[go_sem] theorem QEj (y:UInt32) (n:Int) (h0:0≤n) (h1:n<4294967296):binOp .lss T (.int .u32 n) (W32 y)=pure (.bool (decide ((QG5 n.toNat)<y))):=by
  rw[Qbq n h0 h1]
  exact Qtt T _ y
@[go_sem] theorem Qug (x y:UInt32):binOp .leq T (W32 x) (W32 y)=pure (.bool (decide (x≤y))):=by
  show binOp .leq T (.int .u32 x.toNat) (.int .u32 y.toNat)=_
  rw[binOp_leq]
  congr 2
  rw[decide_eq_decide,UInt32.le_iff_toNat_le]
  omega
@[go_sem] theorem QER (x:UInt32) (n:Int) (h0:0≤n) (h1:n<4294967296):binOp .leq T (W32 x) (.int .u32 n)=pure (.bool (decide (x≤(QG5 n.toNat)))):=by
  rw[Qbq n h0 h1]
  exact Qug T x _
@[go_sem] theorem QEJ (y:UInt32) (n:Int) (h0:0≤n) (h1:n<4294967296):binOp .leq T (.int .u32 n) (W32 y)=pure (.bool (decide ((QG5 n.toNat)≤y))):=by
  rw[Qbq n h0 h1]
  exact Qug T _ y
@[go_sem] theorem QvD (x y:UInt32):binOp .gtr T (W32 x) (W32 y)=pure (.bool (decide (y<x))):=by
  show binOp .gtr T (.int .u32 x.toNat) (.int .u32 y.toNat)=_
  rw[binOp_gtr]
  congr 2
  rw[decide_eq_decide,UInt32.lt_iff_toNat_lt]
  omega
@[go_sem] theorem QEa (x:UInt32) (n:Int) (h0:0≤n) (h1:n<4294967296):binOp .gtr T (W32 x) (.int .u32 n)=pure (.bool (decide ((QG5 n.toNat)<x))):=by
  rw[Qbq n h0 h1]
  exact QvD T x _
@[go_sem] theorem QEq (y:UInt32) (n:Int) (h0:0≤n) (h1:n<4294967296):binOp .gtr T (.int .u32 n) (W32 y)=pure (.bool (decide (y<(QG5 n.toNat)))):=by
  rw[Qbq n h0 h1]
  exact QvD T _ y
@[go_sem] theorem QuE (x y:UInt32):binOp .geq T (W32 x) (W32 y)=pure (.bool (decide (y≤x))):=by
  show binOp .geq T (.int .u32 x.toNat) (.int .u32 y.toNat)=_
  rw[binOp_geq]
  congr 2
  rw[decide_eq_decide,UInt32.le_iff_toNat_le]
  omega
@[go_sem] theorem QEf (x:UInt32) (n:Int) (h0:0≤n) (h1:n<4294967296):binOp .geq T (W32 x) (.int .u32 n)=pure (.bool (decide ((QG5 n.toNat)≤x))):=by
  rw[Qbq n h0 h1]
  exact QuE T x _
@[go_sem] theorem QEo (y:UInt32) (n:Int) (h0:0≤n) (h1:n<4294967296):binOp .geq T (.int .u32 n) (W32 y)=pure (.bool (decide (y≤(QG5 n.toNat)))):=by
  rw[Qbq n h0 h1]
  exact QuE T _ y
@[go_sem] theorem QvI (x y:UInt32) (hy: ¬((y).toNat:Int)=0):binOp .quo T (W32 x) (W32 y)=pure (W32 (x/y)):=by
  show binOp .quo T (.int .u32 x.toNat) (.int .u32 y.toNat)=_
  rw[binOp_quo]
  simp only[Op.intDiv]
  rw[if_neg hy,Qd7 (x:=x/y)]
  rw[QcU,UInt32.toNat_div,Int.tdiv_eq_ediv_of_nonneg (by omega),←Int.natCast_ediv]
  have h1:=Nat.div_le_self x.toNat y.toNat
  have h2:=x.toNat_lt
  generalize x.toNat/y.toNat=q at *
  omega
@[go_sem] theorem QEA (x:UInt32) (n:Int) (h0:0≤n) (h1:n<4294967296) (hy: ¬((QG5 n.toNat).toNat:Int)=0):binOp .quo T (W32 x) (.int .u32 n)=pure (W32 (x/(QG5 n.toNat))):=by
  rw[Qbq n h0 h1]
  exact QvI T x _ hy
@[go_sem] theorem QEz (y:UInt32) (n:Int) (h0:0≤n) (h1:n<4294967296) (hy: ¬((y).toNat:Int)=0):binOp .quo T (.int .u32 n) (W32 y)=pure (W32 (QG5 n.toNat/y)):=by
  rw[Qbq n h0 h1]
  exact QvI T _ y hy
@[go_sem] theorem Qwg (x y:UInt32) (hy: ¬((y).toNat:Int)=0):binOp .rem T (W32 x) (W32 y)=pure (W32 (x%y)):=by
  show binOp .rem T (.int .u32 x.toNat) (.int .u32 y.toNat)=_
  rw[binOp_rem]
  simp only[Op.intDiv]
  rw[if_neg hy,Qd7 (x:=x%y)]
  rw[UInt32.toNat_mod,QIc (by omega),←Int.natCast_emod]
@[go_sem] theorem QpZ (x:UInt32) (n:Int) (h0:0≤n) (h1:n<4294967296) (hy: ¬((QG5 n.toNat).toNat:Int)=0):binOp .rem T (W32 x) (.int .u32 n)=pure (W32 (x%(QG5 n.toNat))):=by
  rw[Qbq n h0 h1]
  exact Qwg T x _ hy
@[go_sem] theorem QD3 (y:UInt32) (n:Int) (h0:0≤n) (h1:n<4294967296) (hy: ¬((y).toNat:Int)=0):binOp .rem T (.int .u32 n) (W32 y)=pure (W32 (QG5 n.toNat%y)):=by
  rw[Qbq n h0 h1]
  exact Qwg T _ y hy
theorem QqJ (x:UInt32) (yk:IntKind) (n:Int) (h0:0≤n):binOp .shl T (W32 x) (.int yk n)=pure (W32 (Qgj x n.toNat)):=by
 show binOp .shl T (.int .u32 x.toNat) (.int yk n)=_
 rw[binOp_shl]
 simp only[Op.shift]
 rw[if_neg (by omega),Qd7 (x:=Qgj x n.toNat)]
 have e:(Qgj x n.toNat).toNat=(x.toNat*2^n.toNat)%4294967296:=by
  show (x.toBitVec <<< n.toNat).toNat=_
  rw[QIy,QIF]
  rfl
 rw[QcU,e]
 have hb:IntKind.bits .u32=32:=rfl
 rw[hb]
 rcases Nat.le_total n.toNat 32 with h|h
 ·rw[QHx h]
  have:((2:Int)^n.toNat)=((2^n.toNat:Nat):Int):=by simp
  rw[this,←QIi]
  omega
 ·rw[Nat.min_eq_right h]
  obtain⟨d,hd⟩:=Nat.exists_eq_add_of_le h
  have e1:x.toNat*2^n.toNat=4294967296*(x.toNat*2^d):=by rw[hd,QHW];show x.toNat*(4294967296*2^d)=_;rw[QIJ]
  rw[e1,Nat.mul_mod_right]
  omega
@[go_sem] theorem QFo (x:UInt32) (yk:IntKind) (n:Int):binOp .shl T (W32 x) (.int yk n)=if n<0 then runtimePanic (.error "negative shift amount") else pure (W32 (Qgj x n.toNat)):=by
  by_cases h:n<0
  ·rw[if_pos h]
   show binOp .shl T (.int .u32 x.toNat) (.int yk n)=_
   rw[binOp_shl]
   simp only[Op.shift]
   rw[if_pos h]
  ·rw[if_neg h]
   exact QqJ T x yk n (by omega)
theorem Qmm (x:UInt32) (yk:IntKind) (n:Int) (h0:0≤n):binOp .shr T (W32 x) (.int yk n)=pure (W32 (QcX x n.toNat)):=by
 show binOp .shr T (.int .u32 x.toNat) (.int yk n)=_
 rw[binOp_shr]
 simp only[Op.shift]
 rw[if_neg (by omega),Qd7 (x:=QcX x n.toNat)]
 have e:(QcX x n.toNat).toNat=x.toNat/2^n.toNat:=by
  show (x.toBitVec >>> n.toNat).toNat=_
  rw[QHz,QHv]
  rfl
 rw[e]
 have hb:IntKind.bits .u32=32:=rfl
 rw[hb]
 have hx:=x.toNat_lt
 have ep:∀m:Nat,((2:Int)^m)=((2^m:Nat):Int):=fun m=>by simp
 rw[ep,Int.fdiv_eq_ediv_of_nonneg _ (Int.natCast_nonneg _),←Int.natCast_ediv]
 rcases Nat.le_total n.toNat 32 with h|h
 ·rw[QHx h]
 ·rw[Nat.min_eq_right h]
  have h1:x.toNat/2^32=0:=QHm (by simpa using hx)
  have h2:x.toNat/2^n.toNat=0:=QHm (QGN (by simpa using hx) (QHt (by omega) h))
  rw[h1,h2]
@[go_sem] theorem QFh (x:UInt32) (yk:IntKind) (n:Int):binOp .shr T (W32 x) (.int yk n)=if n<0 then runtimePanic (.error "negative shift amount") else pure (W32 (QcX x n.toNat)):=by
  by_cases h:n<0
  ·rw[if_pos h]
   show binOp .shr T (.int .u32 x.toNat) (.int yk n)=_
   rw[binOp_shr]
   simp only[Op.shift]
   rw[if_pos h]
  ·rw[if_neg h]
   exact Qmm T x yk n (by omega)
@[go_sem] theorem QEK (x:UInt32) (n:UInt64):binOp .shl T (W32 x) (W64 n)=pure (W32 (Qgj x (cnt n))):=QqJ T x .u64 n.toNat (by omega)
@[go_sem] theorem QEg (x:UInt32) (n:UInt64):binOp .shr T (W32 x) (W64 n)=pure (W32 (QcX x (cnt n))):=Qmm T x .u64 n.toNat (by omega)
@[go_sem] theorem QxE (x:UInt32):Op.unary .xor (W32 x)=pure (W32 (~~~x)):=by
  have h:binOp .xor 0 (.int .u32 (4294967295:Int)) (W32 x)=pure (W32 (~~~x)):=by
   rw[Qxq 0 x 4294967295 (by omega) (by omega)]
   congr 2
  exact h
end
def Qj6 (x:UInt64) (n:Nat):UInt64:=⟨x.toBitVec <<< n⟩
def QhT (x:UInt64) (n:Nat):UInt64:=⟨x.toBitVec >>> n⟩
theorem Qea {x:UInt64} {n:Int} (h:(x.toNat:Int)=n):Value.int .u64 n=W64 x:=by rw[W64,h]
section
variable (T:TypeId) (ox oy:Operand)
@[go_sem] theorem Qz8 (op:BinOp) (x y:UInt64):eqGuard op T ox oy (W64 x) (W64 y)=pure ():=Qbg ..
@[go_sem] theorem QzL (op:BinOp) (x:UInt64) (k:IntKind) (y:Int):eqGuard op T ox oy (W64 x) (.int k y)=pure ():=Qbg ..
@[go_sem] theorem QzS (op:BinOp) (x:UInt64) (k:IntKind) (y:Int):eqGuard op T ox oy (.int k y) (W64 x)=pure ():=Qbg ..
theorem Qbm (n:Int) (h0:0≤n) (h1:n<18446744073709551616):Value.int .u64 n=W64 (QGS n.toNat):=by
 apply Qea
 rw[QGZ]
 omega
theorem Qnz (n:Int):(QHo n).toNat=(n%18446744073709551616).toNat:=by
 simp[QHo,QGZ]
 try omega
theorem QfC (n:Nat):QHo (n:Int)=QGS n:=by
 apply QIx.1
 rw[Qnz,QGZ]
 omega
theorem Qx0 (n:Int):Value.int .u64 (IntKind.wrap .u64 n)=W64 (QHo n):=by
 apply Qea
 rw[QcV]
 have:=Qnz n
 omega
@[go_sem] theorem Qpj (x y:UInt64):binOp .add T (W64 x) (W64 y)=pure (W64 (x+y)):=by
  show binOp .add T (.int .u64 x.toNat) (.int .u64 y.toNat)=_
  rw[binOp_add]
  simp only[Op.intArith]
  rw[Qea (x:=x+y)]
  rw[QcV,UInt64.toNat_add]
  omega
@[go_sem] theorem QEm (x:UInt64) (n:Int) (h0:0≤n) (h1:n<18446744073709551616):binOp .add T (W64 x) (.int .u64 n)=pure (W64 (x+QGS n.toNat)):=by
  rw[Qbm n h0 h1]
  exact Qpj T x _
@[go_sem] theorem QET (y:UInt64) (n:Int) (h0:0≤n) (h1:n<18446744073709551616):binOp .add T (.int .u64 n) (W64 y)=pure (W64 (QGS n.toNat+y)):=by
  rw[Qbm n h0 h1]
  exact Qpj T _ y
@[go_sem] theorem QoB (x y:UInt64):binOp .sub T (W64 x) (W64 y)=pure (W64 (x-y)):=by
  show binOp .sub T (.int .u64 x.toNat) (.int .u64 y.toNat)=_
  rw[binOp_sub]
  simp only[Op.intArith]
  rw[Qea (x:=x-y)]
  rw[QcV,UInt64.toNat_sub]
  have:=y.toNat_lt
  omega
@[go_sem] theorem QE2 (x:UInt64) (n:Int) (h0:0≤n) (h1:n<18446744073709551616):binOp .sub T (W64 x) (.int .u64 n)=pure (W64 (x-QGS n.toNat)):=by
  rw[Qbm n h0 h1]
  exact QoB T x _
@[go_sem] theorem QEu (y:UInt64) (n:Int) (h0:0≤n) (h1:n<18446744073709551616):binOp .sub T (.int .u64 n) (W64 y)=pure (W64 (QGS n.toNat-y)):=by
  rw[Qbm n h0 h1]
  exact QoB T _ y
@[go_sem] theorem Qo5 (x y:UInt64):binOp .mul T (W64 x) (W64 y)=pure (W64 (x*y)):=by
  show binOp .mul T (.int .u64 x.toNat) (.int .u64 y.toNat)=_
  rw[binOp_mul]
  simp only[Op.intArith]
  rw[Qea (x:=x*y)]
  rw[QcV,UInt64.toNat_mul,←QIi]
  omega
@[go_sem] theorem QD0 (x:UInt64) (n:Int) (h0:0≤n) (h1:n<18446744073709551616):binOp .mul T (W64 x) (.int .u64 n)=pure (W64 (x*QGS n.toNat)):=by
  rw[Qbm n h0 h1]
  exact Qo5 T x _
@[go_sem] theorem QD5 (y:UInt64) (n:Int) (h0:0≤n) (h1:n<18446744073709551616):binOp .mul T (.int .u64 n) (W64 y)=pure (W64 (QGS n.toNat*y)):=by
  rw[Qbm n h0 h1]
  exact Qo5 T _ y
@[go_sem] theorem Qv3 (x y:UInt64):binOp .and T (W64 x) (W64 y)=pure (W64 (x &&& y)):=by
  show binOp .and T (.int .u64 x.toNat) (.int .u64 y.toNat)=_
  rw[binOp_and]
  simp only[Op.intBits]
  rw[Qea (x:=x &&& y)]
  have e1:QHR (IntKind.bits .u64) (x.toNat:Int)=x.toBitVec:=Qbe x.toBitVec
  have e2:QHR (IntKind.bits .u64) (y.toNat:Int)=y.toBitVec:=Qbe y.toBitVec
  rw[e1,e2,QcV]
  exact (QiO (x &&& y)).symm
@[go_sem] theorem Qmj (x:UInt64) (n:Int) (h0:0≤n) (h1:n<18446744073709551616):binOp .and T (W64 x) (.int .u64 n)=pure (W64 (x &&& QGS n.toNat)):=by
  rw[Qbm n h0 h1]
  exact Qv3 T x _
@[go_sem] theorem QEB (y:UInt64) (n:Int) (h0:0≤n) (h1:n<18446744073709551616):binOp .and T (.int .u64 n) (W64 y)=pure (W64 (QGS n.toNat &&& y)):=by
  rw[Qbm n h0 h1]
  exact Qv3 T _ y
@[go_sem] theorem QvT (x y:UInt64):binOp .or T (W64 x) (W64 y)=pure (W64 (x ||| y)):=by
  show binOp .or T (.int .u64 x.toNat) (.int .u64 y.toNat)=_
  rw[binOp_or]
  simp only[Op.intBits]
  rw[Qea (x:=x ||| y)]
  have e1:QHR (IntKind.bits .u64) (x.toNat:Int)=x.toBitVec:=Qbe x.toBitVec
  have e2:QHR (IntKind.bits .u64) (y.toNat:Int)=y.toBitVec:=Qbe y.toBitVec
  rw[e1,e2,QcV]
  exact (QiO (x ||| y)).symm
@[go_sem] theorem QFm (x:UInt64) (n:Int) (h0:0≤n) (h1:n<18446744073709551616):binOp .or T (W64 x) (.int .u64 n)=pure (W64 (x ||| QGS n.toNat)):=by
  rw[Qbm n h0 h1]
  exact QvT T x _
@[go_sem] theorem QF3 (y:UInt64) (n:Int) (h0:0≤n) (h1:n<18446744073709551616):binOp .or T (.int .u64 n) (W64 y)=pure (W64 (QGS n.toNat ||| y)):=by
  rw[Qbm n h0 h1]
  exact QvT T _ y
@[go_sem] theorem QuT (x y:UInt64):binOp .xor T (W64 x) (W64 y)=pure (W64 (x ^^^ y)):=by
  show binOp .xor T (.int .u64 x.toNat) (.int .u64 y.toNat)=_
  rw[binOp_xor]
  simp only[Op.intBits]
  rw[Qea (x:=x ^^^ y)]
  have e1:QHR (IntKind.bits .u64) (x.toNat:Int)=x.toBitVec:=Qbe x.toBitVec
  have e2:QHR (IntKind.bits .u64) (y.toNat:Int)=y.toBitVec:=Qbe y.toBitVec
  rw[e1,e2,QcV]
  exact (QiO (x ^^^ y)).symm
@[go_sem] theorem QEp (x:UInt64) (n:Int) (h0:0≤n) (h1:n<18446744073709551616):binOp .xor T (W64 x) (.int .u64 n)=pure (W64 (x ^^^ QGS n.toNat)):=by
  rw[Qbm n h0 h1]
  exact QuT T x _
@[go_sem] theorem QyE (y:UInt64) (n:Int) (h0:0≤n) (h1:n<18446744073709551616):binOp .xor T (.int .u64 n) (W64 y)=pure (W64 (QGS n.toNat ^^^ y)):=by
  rw[Qbm n h0 h1]
  exact QuT T _ y
@[go_sem] theorem Qpv (x y:UInt64):binOp .eql T (W64 x) (W64 y)=pure (.bool (x==y)):=by
  show binOp .eql T (.int .u64 x.toNat) (.int .u64 y.toNat)=_
  rw[binOp_eql]
  have:((x.toNat:Int)==(y.toNat:Int))=(x==y):=by
   rw[QHh,beq_iff_eq,beq_iff_eq,←QIx]
   omega
  simp only[this]
@[go_sem] theorem QEG (x:UInt64) (n:Int) (h0:0≤n) (h1:n<18446744073709551616):binOp .eql T (W64 x) (.int .u64 n)=pure (.bool (x==(QGS n.toNat))):=by
  rw[Qbm n h0 h1]
  exact Qpv T x _
@[go_sem] theorem QEH (y:UInt64) (n:Int) (h0:0≤n) (h1:n<18446744073709551616):binOp .eql T (.int .u64 n) (W64 y)=pure (.bool ((QGS n.toNat)==y)):=by
  rw[Qbm n h0 h1]
  exact Qpv T _ y
@[go_sem] theorem QtX (x y:UInt64):binOp .neq T (W64 x) (W64 y)=pure (.bool (x != y)):=by
  show binOp .neq T (.int .u64 x.toNat) (.int .u64 y.toNat)=_
  rw[binOp_neq]
  have:((x.toNat:Int)==(y.toNat:Int))=(x==y):=by
   rw[QHh,beq_iff_eq,beq_iff_eq,←QIx]
   omega
  simp only[bne,this]
@[go_sem] theorem QEF (x:UInt64) (n:Int) (h0:0≤n) (h1:n<18446744073709551616):binOp .neq T (W64 x) (.int .u64 n)=pure (.bool (x != (QGS n.toNat))):=by
  rw[Qbm n h0 h1]
  exact QtX T x _
@[go_sem] theorem QEl (y:UInt64) (n:Int) (h0:0≤n) (h1:n<18446744073709551616):binOp .neq T (.int .u64 n) (W64 y)=pure (.bool ((QGS n.toNat) != y)):=by
  rw[Qbm n h0 h1]
  exact QtX T _ y
@[go_sem] theorem Qou (x y:UInt64):binOp .lss T (W64 x) (W64 y)=pure (.bool (decide (x<y))):=by
  show binOp .lss T (.int .u64 x.toNat) (.int .u64 y.toNat)=_
  rw[binOp_lss]
  congr 2
  rw[decide_eq_decide,UInt64.lt_iff_toNat_lt]
  omega
@[go_sem] theorem QE1 (x:UInt64) (n:Int) (h0:0≤n) (h1:n<18446744073709551616):binOp .lss T (W64 x) (.int .u64 n)=pure (.bool (decide (x<(QGS n.toNat)))):=by
  rw[Qbm n h0 h1]
  exact Qou T x _
@[go_sem] theorem QEd (y:UInt64) (n:Int) (h0:0≤n) (h1:n<18446744073709551616):binOp .lss T (.int .u64 n) (W64 y)=pure (.bool (decide ((QGS n.toNat)<y))):=by
  rw[Qbm n h0 h1]
  exact Qou T _ y
@[go_sem] theorem QvU (x y:UInt64):binOp .leq T (W64 x) (W64 y)=pure (.bool (decide (x≤y))):=by
  show binOp .leq T (.int .u64 x.toNat) (.int .u64 y.toNat)=_
  rw[binOp_leq]
  congr 2
  rw[decide_eq_decide,UInt64.le_iff_toNat_le]
  omega
@[go_sem] theorem QEI (x:UInt64) (n:Int) (h0:0≤n) (h1:n<18446744073709551616):binOp .leq T (W64 x) (.int .u64 n)=pure (.bool (decide (x≤(QGS n.toNat)))):=by
  rw[Qbm n h0 h1]
  exact QvU T x _
@[go_sem] theorem QEX (y:UInt64) (n:Int) (h0:0≤n) (h1:n<18446744073709551616):binOp .leq T (.int .u64 n) (W64 y)=pure (.bool (decide ((QGS n.toNat)≤y))):=by
  rw[Qbm n h0 h1]
  exact QvU T _ y
@[go_sem] theorem Qph (x y:UInt64):binOp .gtr T (W64 x) (W64 y)=pure (.bool (decide (y<x))):=by
  show binOp .gtr T (.int .u64 x.toNat) (.int .u64 y.toNat)=_
  rw[binOp_gtr]
  congr 2
  rw[decide_eq_decide,UInt64.lt_iff_toNat_lt]
  omega
@[go_sem] theorem QD1 (x:UInt64) (n:Int) (h0:0≤n) (h1:n<18446744073709551616):binOp .gtr T (W64 x) (.int .u64 n)=pure (.bool (decide ((QGS n.toNat)<x))):=by
  rw[Qbm n h0 h1]
  exact Qph T x _
@[go_sem] theorem QEi (y:UInt64) (n:Int) (h0:0≤n) (h1:n<18446744073709551616):binOp .gtr T (.int .u64 n) (W64 y)=pure (.bool (decide (y<(QGS n.toNat)))):=by
  rw[Qbm n h0 h1]
  exact Qph T _ y
@[go_sem] theorem QtE (x y:UInt64):binOp .geq T (W64 x) (W64 y)=pure (.bool (decide (y≤x))):=by
  show binOp .geq T (.int .u64 x.toNat) (.int .u64 y.toNat)=_
  rw[binOp_geq]
  congr 2
  rw[decide_eq_decide,UInt64.le_iff_toNat_le]
  omega
@[go_sem] theorem QD6 (x:UInt64) (n:Int) (h0:0≤n) (h1:n<18446744073709551616):binOp .geq T (W64 x) (.int .u64 n)=pure (.bool (decide ((QGS n.toNat)≤x))):=by
  rw[Qbm n h0 h1]
  exact QtE T x _
@[go_sem] theorem QEO (y:UInt64) (n:Int) (h0:0≤n) (h1:n<18446744073709551616):binOp .geq T (.int .u64 n) (W64 y)=pure (.bool (decide (y≤(QGS n.toNat)))):=by
  rw[Qbm n h0 h1]
  exact QtE T _ y
@[go_sem] theorem Qvx (x y:UInt64) (hy: ¬((y).toNat:Int)=0):binOp .quo T (W64 x) (W64 y)=pure (W64 (x/y)):=by
  show binOp .quo T (.int .u64 x.toNat) (.int .u64 y.toNat)=_
  rw[binOp_quo]
  simp only[Op.intDiv]
  rw[if_neg hy,Qea (x:=x/y)]
  rw[QcV,UInt64.toNat_div,Int.tdiv_eq_ediv_of_nonneg (by omega),←Int.natCast_ediv]
  have h1:=Nat.div_le_self x.toNat y.toNat
  have h2:=x.toNat_lt
  generalize x.toNat/y.toNat=q at *
  omega
@[go_sem] theorem QEk (x:UInt64) (n:Int) (h0:0≤n) (h1:n<18446744073709551616) (hy: ¬((QGS n.toNat).toNat:Int)=0):binOp .quo T (W64 x) (.int .u64 n)=pure (W64 (x/(QGS n.toNat))):=by
  rw[Qbm n h0 h1]
  exact Qvx T x _ hy
@[go_sem] theorem QEt (y:UInt64) (n:Int) (h0:0≤n) (h1:n<18446744073709551616) (hy: ¬((y).toNat:Int)=0):binOp .quo T (.int .u64 n) (W64 y)=pure (W64 (QGS n.toNat/y)):=by
  rw[Qbm n h0 h1]
  exact Qvx T _ y hy
@[go_sem] theorem QuI (x y:UInt64) (hy: ¬((y).toNat:Int)=0):binOp .rem T (W64 x) (W64 y)=pure (W64 (x%y)):=by
  show binOp .rem T (.int .u64 x.toNat) (.int .u64 y.toNat)=_
  rw[binOp_rem]
  simp only[Op.intDiv]
  rw[if_neg hy,Qea (x:=x%y)]
  rw[UInt64.toNat_mod,QIc (by omega),←Int.natCast_emod]
@[go_sem] theorem Qyg (x:UInt64) (n:Int) (h0:0≤n) (h1:n<18446744073709551616) (hy: ¬((QGS n.toNat).toNat:Int)=0):binOp .rem T (W64 x) (.int .u64 n)=pure (W64 (x%(QGS n.toNat))):=by
  rw[Qbm n h0 h1]
  exact QuI T x _ hy
@[go_sem] theorem QD2 (y:UInt64) (n:Int) (h0:0≤n) (h1:n<18446744073709551616) (hy: ¬((y).toNat:Int)=0):binOp .rem T (.int .u64 n) (W64 y)=pure (W64 (QGS n.toNat%y)):=by
  rw[Qbm n h0 h1]
  exact QuI T _ y hy
theorem QlE (x:UInt64) (yk:IntKind) (n:Int) (h0:0≤n):binOp .shl T (W64 x) (.int yk n)=pure (W64 (Qj6 x n.toNat)):=by
 show binOp .shl T (.int .u64 x.toNat) (.int yk n)=_
 rw[binOp_shl]
 simp only[Op.shift]
 rw[if_neg (by omega),Qea (x:=Qj6 x n.toNat)]
 have e:(Qj6 x n.toNat).toNat=(x.toNat*2^n.toNat)%18446744073709551616:=by
  show (x.toBitVec <<< n.toNat).toNat=_
  rw[QIy,QIF]
  rfl
 rw[QcV,e]
 have hb:IntKind.bits .u64=64:=rfl
 rw[hb]
 rcases Nat.le_total n.toNat 64 with h|h
 ·rw[QHx h]
  have:((2:Int)^n.toNat)=((2^n.toNat:Nat):Int):=by simp
  rw[this,←QIi]
  omega
 ·rw[Nat.min_eq_right h]
  obtain⟨d,hd⟩:=Nat.exists_eq_add_of_le h
  have e1:x.toNat*2^n.toNat=18446744073709551616*(x.toNat*2^d):=by rw[hd,QHW];show x.toNat*(18446744073709551616*2^d)=_;rw[QIJ]
  rw[e1,Nat.mul_mod_right]
  omega
@[go_sem] theorem QFA (x:UInt64) (yk:IntKind) (n:Int):binOp .shl T (W64 x) (.int yk n)=if n<0 then runtimePanic (.error "negative shift amount") else pure (W64 (Qj6 x n.toNat)):=by
  by_cases h:n<0
  ·rw[if_pos h]
   show binOp .shl T (.int .u64 x.toNat) (.int yk n)=_
   rw[binOp_shl]
   simp only[Op.shift]
   rw[if_pos h]
  ·rw[if_neg h]
   exact QlE T x yk n (by omega)
theorem Ql3 (x:UInt64) (yk:IntKind) (n:Int) (h0:0≤n):binOp .shr T (W64 x) (.int yk n)=pure (W64 (QhT x n.toNat)):=by
 show binOp .shr T (.int .u64 x.toNat) (.int yk n)=_
 rw[binOp_shr]
 simp only[Op.shift]
 rw[if_neg (by omega),Qea (x:=QhT x n.toNat)]
 have e:(QhT x n.toNat).toNat=x.toNat/2^n.toNat:=by
  show (x.toBitVec >>> n.toNat).toNat=_
  rw[QHz,QHv]
  rfl
 rw[e]
 have hb:IntKind.bits .u64=64:=rfl
 rw[hb]
 have hx:=x.toNat_lt
 have ep:∀m:Nat,((2:Int)^m)=((2^m:Nat):Int):=fun m=>by simp
 rw[ep,Int.fdiv_eq_ediv_of_nonneg _ (Int.natCast_nonneg _),←Int.natCast_ediv]
 rcases Nat.le_total n.toNat 64 with h|h
 ·rw[QHx h]
 ·rw[Nat.min_eq_right h]
  have h1:x.toNat/2^64=0:=QHm (by simpa using hx)
  have h2:x.toNat/2^n.toNat=0:=QHm (QGN (by simpa using hx) (QHt (by omega) h))
  rw[h1,h2]
@[go_sem] theorem QGb (x:UInt64) (yk:IntKind) (n:Int):binOp .shr T (W64 x) (.int yk n)=if n<0 then runtimePanic (.error "negative shift amount") else pure (W64 (QhT x n.toNat)):=by
  by_cases h:n<0
  ·rw[if_pos h]
   show binOp .shr T (.int .u64 x.toNat) (.int yk n)=_
   rw[binOp_shr]
   simp only[Op.shift]
   rw[if_pos h]
  ·rw[if_neg h]
   exact Ql3 T x yk n (by omega)
@[go_sem] theorem QEs (x:UInt64) (n:UInt64):binOp .shl T (W64 x) (W64 n)=pure (W64 (Qj6 x (cnt n))):=QlE T x .u64 n.toNat (by omega)
@[go_sem] theorem QEb (x:UInt64) (n:UInt64):binOp .shr T (W64 x) (W64 n)=pure (W64 (QhT x (cnt n))):=Ql3 T x .u64 n.toNat (by omega)
@[go_sem] theorem Qxj (x:UInt64):Op.unary .xor (W64 x)=pure (W64 (~~~x)):=by
  have h:binOp .xor 0 (.int .u64 (18446744073709551615:Int)) (W64 x)=pure (W64 (~~~x)):=by
   rw[QyE 0 x 18446744073709551615 (by omega) (by omega)]
   congr 2
  exact h
end
section
variable {P:Program} (w:World) (S D:TypeId)
@[go_sem] theorem QrE (x:UInt8) (hs:(P.underlying S).isSome=true) (hd:P.underlying D=some (.int .u8)):(convert S D (W8 x)).run P w= .ok (W8 x) w:=by
  have h:=run_convert_int (P:=P) (w:=w) S D .u8 x.toNat hs (by unfold Program.intKind;rw[hd])
  have e:P.intKind D= .u8:=by unfold Program.intKind;rw[hd]
  rw[e]at h
  refine h.trans ?_
  rw[QgJ (x:=x)]
  rw[QdR]
  have:=x.toNat_lt
  skip
  omega
@[go_sem] theorem QqF (x:UInt8) (hs:(P.underlying S).isSome=true) (hd:P.underlying D=some (.int .u32)):(convert S D (W8 x)).run P w= .ok (W32 x.toUInt32) w:=by
  have h:=run_convert_int (P:=P) (w:=w) S D .u8 x.toNat hs (by unfold Program.intKind;rw[hd])
  have e:P.intKind D= .u32:=by unfold Program.intKind;rw[hd]
  rw[e]at h
  refine h.trans ?_
  rw[Qd7 (x:=x.toUInt32)]
  rw[QcU]
  have:=x.toNat_lt
  rw[UInt8.toNat_toUInt32]
  omega
@[go_sem] theorem Qq3 (x:UInt8) (hs:(P.underlying S).isSome=true) (hd:P.underlying D=some (.int .u64)):(convert S D (W8 x)).run P w= .ok (W64 x.toUInt64) w:=by
  have h:=run_convert_int (P:=P) (w:=w) S D .u8 x.toNat hs (by unfold Program.intKind;rw[hd])
  have e:P.intKind D= .u64:=by unfold Program.intKind;rw[hd]
  rw[e]at h
  refine h.trans ?_
  rw[Qea (x:=x.toUInt64)]
  rw[QcV]
  have:=x.toNat_lt
  rw[UInt8.toNat_toUInt64]
  omega
@[go_sem] theorem QpU (x:UInt8) (hs:(P.underlying S).isSome=true) (hd:P.underlying D=some (.int .i64)):(convert S D (W8 x)).run P w= .ok (.int .i64 (IntKind.i64.wrap x.toNat)) w:=by
  have h:=run_convert_int (P:=P) (w:=w) S D .u8 x.toNat hs (by unfold Program.intKind;rw[hd])
  have e:P.intKind D= .i64:=by unfold Program.intKind;rw[hd]
  rw[e]at h
  exact h
@[go_sem] theorem QgZ (x:UInt32) (hs:(P.underlying S).isSome=true) (hd:P.underlying D=some (.int .u8)):(convert S D (W32 x)).run P w= .ok (W8 x.toUInt8) w:=by
  have h:=run_convert_int (P:=P) (w:=w) S D .u32 x.toNat hs (by unfold Program.intKind;rw[hd])
  have e:P.intKind D= .u8:=by unfold Program.intKind;rw[hd]
  rw[e]at h
  refine h.trans ?_
  rw[QgJ (x:=x.toUInt8)]
  rw[QdR]
  skip
  rw[UInt32.toNat_toUInt8]
  omega
@[go_sem] theorem Qpy (x:UInt32) (hs:(P.underlying S).isSome=true) (hd:P.underlying D=some (.int .u32)):(convert S D (W32 x)).run P w= .ok (W32 x) w:=by
  have h:=run_convert_int (P:=P) (w:=w) S D .u32 x.toNat hs (by unfold Program.intKind;rw[hd])
  have e:P.intKind D= .u32:=by unfold Program.intKind;rw[hd]
  rw[e]at h
  refine h.trans ?_
  rw[Qd7 (x:=x)]
  rw[QcU]
  have:=x.toNat_lt
  skip
  omega
@[go_sem] theorem QgA (x:UInt32) (hs:(P.underlying S).isSome=true) (hd:P.underlying D=some (.int .u64)):(convert S D (W32 x)).run P w= .ok (W64 x.toUInt64) w:=by
  have h:=run_convert_int (P:=P) (w:=w) S D .u32 x.toNat hs (by unfold Program.intKind;rw[hd])
  have e:P.intKind D= .u64:=by unfold Program.intKind;rw[hd]
  rw[e]at h
  refine h.trans ?_
  rw[Qea (x:=x.toUInt64)]
  rw[QcV]
  have:=x.toNat_lt
  rw[UInt32.toNat_toUInt64]
  omega
@[go_sem] theorem Qov (x:UInt32) (hs:(P.underlying S).isSome=true) (hd:P.underlying D=some (.int .i64)):(convert S D (W32 x)).run P w= .ok (.int .i64 (IntKind.i64.wrap x.toNat)) w:=by
  have h:=run_convert_int (P:=P) (w:=w) S D .u32 x.toNat hs (by unfold Program.intKind;rw[hd])
  have e:P.intKind D= .i64:=by unfold Program.intKind;rw[hd]
  rw[e]at h
  exact h
@[go_sem] theorem Qg4 (x:UInt64) (hs:(P.underlying S).isSome=true) (hd:P.underlying D=some (.int .u8)):(convert S D (W64 x)).run P w= .ok (W8 x.toUInt8) w:=by
  have h:=run_convert_int (P:=P) (w:=w) S D .u64 x.toNat hs (by unfold Program.intKind;rw[hd])
  have e:P.intKind D= .u8:=by unfold Program.intKind;rw[hd]
  rw[e]at h
  refine h.trans ?_
  rw[QgJ (x:=x.toUInt8)]
  rw[QdR]
  skip
  rw[UInt64.toNat_toUInt8]
  omega
@[go_sem] theorem QgI (x:UInt64) (hs:(P.underlying S).isSome=true) (hd:P.underlying D=some (.int .u32)):(convert S D (W64 x)).run P w= .ok (W32 x.toUInt32) w:=by
  have h:=run_convert_int (P:=P) (w:=w) S D .u64 x.toNat hs (by unfold Program.intKind;rw[hd])
  have e:P.intKind D= .u32:=by unfold Program.intKind;rw[hd]
  rw[e]at h
  refine h.trans ?_
  rw[Qd7 (x:=x.toUInt32)]
  rw[QcU]
  skip
  rw[UInt64.toNat_toUInt32]
  omega
@[go_sem] theorem Qoi (x:UInt64) (hs:(P.underlying S).isSome=true) (hd:P.underlying D=some (.int .u64)):(convert S D (W64 x)).run P w= .ok (W64 x) w:=by
  have h:=run_convert_int (P:=P) (w:=w) S D .u64 x.toNat hs (by unfold Program.intKind;rw[hd])
  have e:P.intKind D= .u64:=by unfold Program.intKind;rw[hd]
  rw[e]at h
  refine h.trans ?_
  rw[Qea (x:=x)]
  rw[QcV]
  have:=x.toNat_lt
  skip
  omega
@[go_sem] theorem QoM (x:UInt64) (hs:(P.underlying S).isSome=true) (hd:P.underlying D=some (.int .i64)):(convert S D (W64 x)).run P w= .ok (.int .i64 (IntKind.i64.wrap x.toNat)) w:=by
  have h:=run_convert_int (P:=P) (w:=w) S D .u64 x.toNat hs (by unfold Program.intKind;rw[hd])
  have e:P.intKind D= .i64:=by unfold Program.intKind;rw[hd]
  rw[e]at h
  exact h
end
@[go_sem] theorem Qy6 (P:Program) (w:World) (a:Addr) (m:Mode) (x:UInt8):(store a (W8 x) m).run P w=stored P w a (W8 x) m:=run_store P w a _ m rfl
@[go_sem ↓] theorem QEc (x:UInt8):(W8 x).cells= #[W8 x]:=rfl
@[go_sem] theorem QyU (P:Program) (w:World) (a:Addr) (m:Mode) (x:UInt32):(store a (W32 x) m).run P w=stored P w a (W32 x) m:=run_store P w a _ m rfl
@[go_sem ↓] theorem QCx (x:UInt32):(W32 x).cells= #[W32 x]:=rfl
@[go_sem] theorem Qxe (P:Program) (w:World) (a:Addr) (m:Mode) (x:UInt64):(store a (W64 x) m).run P w=stored P w a (W64 x) m:=run_store P w a _ m rfl
@[go_sem ↓] theorem QCA (x:UInt64):(W64 x).cells= #[W64 x]:=rfl
attribute [go_sem] QAU Qx7 Qx0
end Go.Proofs.YtdhgpkdjdmlphaaGreat
