/-
  Lemmas for the last text of this claim (part 4 of 20).
-/
import Derived.ArgAppend
import Derived.BigQuiet
import Derived.BigRegion
import Derived.ChangeOld
import Derived.Deep.RegionWith
import Derived.DeepKeys4
import Derived.JoinedCond
import Derived.LaidMore
import Derived.Laws.CopyOwn
import Derived.Laws.Externs
import Derived.Laws.IdiomStrings
import Derived.Laws.Tables
import Derived.Lib.AppendStr
import Derived.Lib.AppendZerosOnto
import Derived.Lib.Mul64
import Derived.Lib.SlBytesConst
import Derived.LoopN
import Derived.Maps.OwnSet
import Derived.OpenShut
import Derived.OrdersHeld
import Derived.ProofKit
import Derived.Shelf.Spec.BitsCarry
import Derived.ShutString
import Derived.Test.YtdkpcdgckgaklaaGreatProg
import Derived.Test.YtdkpcdgckgaklaaGreatRows
import Derived.WalkKit
import Derived.WalkLawsBesides
import Derived.WalkSpells
import Derived.Test.YtdkpcdgckgaklaaGreatPA
import Derived.Test.YtdkpcdgckgaklaaGreatPB
open Array renaming replicate → QDL, getElem?_eq_none → QDS
open Bool renaming and_eq_true → QCG, not_eq_true' → QDE, or_eq_true → QEe, false_or → QEC
open List renaming getElem?_eq_getElem → QCv, mem_cons → QCQ, map_cons → QCR, eq_nil_of_length_eq_zero → QC0, range → QC5, mem_map → QC7, all_eq_true → QDa, mem_append → QDc, length_cons → QDj, all_cons → QDA, mem_range → QDC, singleton_append → QDW, nodup_cons → QEf, mem_cons_of_mem → QEg, any_eq_true → QEq
open Nat renaming le_refl → QCx, zero_add → QCI, lt_of_lt_of_le → QCM, le_trans → QC4, lt_or_ge → QDq
open Option renaming toList_some → QCq, bind_some → QDF, map_some → QD7, getD_some → QEr
set_option linter.all false
namespace Go.Proofs.YtdkpcdgckgaklaaGreat
open Go.RowKit
def Makes (P:Program) (ops:Array Oper) (o:Oper) (v:Nat→Value) (O:Obj) (a:Act):Prop:=
 Region.wanted o (yielded ops a.tmps)=true∧∀w,(execOp a.eval o).run P w= .ok (.value (v w.heap.size)) (w.alloc O)
section
variable {P:Program} {ops:Array Oper} {Q:Exit→Act→World→Prop}
theorem Makes.of_same {o:Oper} {v:Nat→Value} {O:Obj} {a a':Act} (h:Makes P ops o v O a) (he:execOp a'.eval o=execOp a.eval o) (hw:Region.wanted o (yielded ops a'.tmps)=Region.wanted o (yielded ops a.tmps)):Makes P ops o v O a':=by
 unfold Makes at *
 rw[he,hw]
 exact h
theorem QsH {j:Nat} {oi oj:Oper} {v:Nat→Value} {O:Obj} {u:Value} (hj:ops[j]?=some oj) (hap:oi.apart ops oj=true)
 (hsi:∀cs b,oi.op≠ .select cs b) (hsj:∀cs b,oj.op≠ .select cs b) (hQ:∀c a w,Q (.panic c) a w→Q (.panic c) (a.put oi.dst u) w) {K:Act→World→Prop} {a:Act} {w:World}
 (hm:Makes P ops oi v O a) (h:wpOp P ops Q j K a w):
 wpOp P ops Q j (fun a' w'=>∃a0,a'=a0.put oi.dst u∧Makes P ops oi v O a0∧K a0 w') (a.put oi.dst u) w:=by
 obtain⟨h1,h2,h3⟩:=Oper.apart_spec hap
 have keep:∀(a:Act),Makes P ops oi v O a→∀x,Makes P ops oi v O (a.put oj.dst x):=fun a hy x=>
  hy.of_same (execOp_put oi hsi a oj.dst x h3) (wanted_put oi a oj.dst x h3)
 have keepD:∀d,Makes P ops oi v O { a with defers:=d :: a.defers }:=fun d=>hm.of_same rfl rfl
 unfold wpOp at *
 simp only[hj]at *
 rw[wanted_put oj a oi.dst u h1]
 split
 ·rename_i hw
  simp only[hw,if_true]at h
  rcases h with h|⟨hasks,hlets⟩
  case inr=>exact .inr ⟨by unfold Oper.asks at *;rw[execOp_put oj hsj a oi.dst u h1];exact hasks,hlets⟩
  refine .inl ?_
  unfold Oper.wp at *
  rw[execOp_put oj hsj a oi.dst u h1]
  generalize (execOp a.eval oj).run P w=r at *
  cases r with
  | ok n w'=>
    cases n<;>simp only[Oper.upon]at h ⊢
    case value x=>exact⟨_,Act.put_comm a u x h2,keep a hm x,h⟩
    case skip=>exact⟨_,Act.put_comm a u undef h2,keep a hm _,h⟩
    case defer d=>
     refine⟨_,?_,keep _ (keepD d) undef,h⟩
     rw[←Act.put_comm _ u undef h2]
     unfold Act.put
     cases oi.dst<;>cases oj.dst<;>rfl
    case enter f args=>
     refine Calls.mono h fun e w'' he=>?_
     cases e with
     | returned x=>exact⟨_,Act.put_comm a u x h2,keep a hm x,he⟩
     | panicked c=>exact hQ _ _ _ he
     | outgrown=>exact he
    case row row args=>exact Rows.mono h fun x w'' he=>⟨_,Act.put_comm a u x h2,keep a hm x,he⟩
  | halt x w'=>
    cases x<;>simp only[Oper.upon]at h ⊢
    case panic x=>exact hQ _ _ _ h
 ·rename_i hw
  simp only[hw]at h
  exact⟨_,Act.put_comm a u undef h2,keep a hm _,h⟩
def wpM (P:Program) (ops:Array Oper) (Q:Exit→Act→World→Prop) (base:Nat) (mk:Nat→(Nat→Value)×Obj):(Nat→Prop)→Bool→List (Nat×Nat)→Act→World→Prop
 | _,_,[],a,w=>Q .normal a w
 | S,fz,(i,0) :: r,a,w=>∃o,ops[i]?=some o∧if Region.wanted o (yielded ops a.tmps) then o.quiet P a (Later w) (fun a'=>wpM P ops Q base mk S fz r a' w) else wpM P ops Q base mk S fz r (a.put o.dst undef) w
 | S,fz,(i,1) :: r,a,w=>∀w1,Later w w1→wpOp P ops Q i (fun a' w'=>Later w1 w'∧wpM P ops Q base mk S fz r a' w') a w1
 | S,fz,(i,2) :: r,a,w=>∃o,ops[i]?=some o∧∀w1 g,Later w w1→base≤g→ ¬S g→w1.heap[g]?=some (mk i).2→wpM P ops Q base mk (fun n=>n=g∨S n) fz r (a.put o.dst ((mk i).1 g)) w1
 | S,true,(i,_) :: r,a,w=>∀w1,Later w w1→wpOp P ops Q i (fun a' w'=>wpM P ops Q base mk S false r a' w') a w1
 | S,false,(i,_) :: r,a,w=>wpOp P ops Q i (fun a' w'=>wpM P ops Q base mk S false r a' w') a w
theorem QqB (S:Nat→Prop) (g h:Nat):(fun n=>n=g∨(n=h∨S n))=(fun n=>n=h∨(n=g∨S n)):=by
 funext n
 exact propext ⟨fun x=>x.elim (fun e=>.inr (.inl e)) fun y=>y.elim .inl fun z=>.inr (.inr z),fun x=>x.elim (fun e=>.inr (.inl e)) fun y=>y.elim .inl fun z=>.inr (.inr z)⟩
theorem QpL {j:Nat} {oj:Oper} (hj:ops[j]?=some oj) {I:Act→Prop} {K:Act→World→Prop} {a:Act} {w:World} (hI:I a) (hput:∀a,I a→∀x,I (a.put oj.dst x)) (hdef:∀a,I a→∀d,I { a with defers:=d :: a.defers })
 (h:wpOp P ops Q j K a w):wpOp P ops Q j (fun a' w'=>I a'∧K a' w') a w:=by
 unfold wpOp at *
 simp only[hj]at *
 split
 ·rename_i hw
  simp only[hw,if_true]at h
  rcases h with h|h
  case inr=>exact .inr h
  refine .inl ?_
  unfold Oper.wp at *
  generalize (execOp a.eval oj).run P w=r at *
  cases r with
  | ok n w'=>
    cases n<;>simp only[Oper.upon]at h ⊢
    case value x=>exact⟨hput a hI x,h⟩
    case skip=>exact⟨hput a hI undef,h⟩
    case defer d=>exact⟨hput _ (hdef a hI d) undef,h⟩
    case enter f args=>
     refine Calls.mono h fun e w'' he=>?_
     cases e with
     | returned x=>exact⟨hput a hI x,he⟩
     | panicked c=>exact he
     | outgrown=>exact he
    case row row args=>exact Rows.mono h fun x w'' he=>⟨hput a hI x,he⟩
  | halt x w'=>
    cases x<;>simp only[Oper.upon]at h ⊢
    case panic x=>exact h
 ·rename_i hw
  simp only[hw]at h
  exact⟨hput a hI undef,h⟩
def Qct (i:Nat):List (Nat×Nat)→List (Nat×Nat)
 | []=>[]
 | (k,kd) :: r=>if k=i then r else (k,kd) :: Qct i r
def QdY (ops:Array Oper) (oi:Oper) (i:Nat):List (Nat×Nat)→Bool
 | []=>false
 | (k,kd) :: r=>if k=i then decide (kd=2) else decide (kd≤2)&&((ops[k]?).map fun ok=>oi.apart ops ok&&(kd != 0||calm ok)).getD false&&QdY ops oi i r
theorem Qv4 {base:Nat} {mk:Nat→(Nat→Value)×Obj} {i g:Nat} {oi:Oper} (hi:ops[i]?=some oi) (hsel:∀(j:Nat) (o:Oper) cs b,ops[j]?=some o→o.op≠ .select cs b)
 (hQ:∀c a d v w,Q (.panic c) a w→Q (.panic c) (a.put d v) w) (hb:base≤g):
 ∀(l:List (Nat×Nat)) (S:Nat→Prop) (a:Act) (w w2:World),QdY ops oi i l=true→ ¬S g→wpM P ops Q base mk S true l a w→Makes P ops oi (mk i).1 (mk i).2 a→Later w w2→w2.heap[g]?=some (mk i).2→
  wpM P ops Q base mk (fun n=>n=g∨S n) true (Qct i l) (a.put oi.dst ((mk i).1 g)) w2
 | [],_,_,_,_,hB,_,_,_,_,_=>by simp[QdY]at hB
 | (k,kd) :: r,S,a,w,w2,hB,hSg,h,hm,hl,hg=>by
   unfold QdY at hB
   unfold Qct
   by_cases hk:k=i
   ·subst hk
    rw[if_pos rfl]at hB
    rw[if_pos rfl]
    obtain rfl:kd=2:=by simpa using hB
    obtain⟨o,ho,h⟩:=h
    obtain rfl:o=oi:=Option.some.inj (ho.symm.trans hi)
    exact h w2 g hl hb hSg hg
   ·rw[if_neg hk]at hB
    rw[if_neg hk]
    simp only[QCG,decide_eq_true_eq]at hB
    obtain⟨⟨hkd,hap⟩,hB⟩:=hB
    obtain⟨ok,hok⟩:∃ok,ops[k]?=some ok:=by
     cases hq:ops[k]? with
     | none=>simp[hq]at hap
     | some o=>exact⟨o,rfl⟩
    have hap2:oi.apart ops ok=true∧(kd=0→calm ok=true):=by
     simp only[hok,QD7,QEr,QCG,QEe,bne_iff_ne]at hap
     exact⟨hap.1,fun h=>by rcases hap.2 with h'|h'<;>first|exact absurd h h'|exact h'⟩
    obtain⟨hap',hcalm⟩:=hap2
    obtain⟨h1,h2,h3⟩:=Oper.apart_spec hap'
    have hsi:=fun cs b=>hsel i oi cs b hi
    have hsk:=fun cs b=>hsel k ok cs b hok
    have keep:∀(a:Act),Makes P ops oi (mk i).1 (mk i).2 a→∀x,Makes P ops oi (mk i).1 (mk i).2 (a.put ok.dst x):=fun a hy x=>
     hy.of_same (execOp_put oi hsi a ok.dst x h3) (wanted_put oi a ok.dst x h3)
    have ih:=Qv4 (mk:=mk) hi hsel hQ hb r
    match kd,hkd with
    | 0,_=>
      obtain⟨o,ho,h⟩:=h
      obtain rfl:o=ok:=Option.some.inj (ho.symm.trans hok)
      refine⟨o,ho,?_⟩
      rw[wanted_put o a oi.dst _ h1]
      split
      ·rename_i hw
       rw[if_pos hw]at h
       obtain⟨x,hx1,hx2⟩:=h
       refine⟨x,fun w' hw'=>?_,?_⟩
       ·have:=hx1 w' (hl.trans hw')
        unfold Oper.quietAt at *
        rw[execOp_put o hsk a oi.dst _ h1]
        cases hr:(execOp a.eval o).run P w' with
        | halt e w3=>rw[hr]at this;exact absurd this (by simp[Oper.quietUpon])
        | ok n w3=>
          rw[hr]at this
          obtain⟨y,rfl⟩:=QfG (hcalm rfl) hr
          exact this
       ·rw[Act.put_comm a _ x h2]
        exact ih _ _ w w2 hB hSg hx2 (keep a hm x) hl hg
      ·rename_i hw
       rw[if_neg hw]at h
       rw[Act.put_comm a _ undef h2]
       exact ih _ _ w w2 hB hSg h (keep a hm undef) hl hg
    | 1,_=>
      intro w1 hl1
      refine wpOp_mono (fun a' w' h'=>?_) (QsH hok hap' hsi hsk (fun c a w=>hQ c a _ _ w) hm (h w1 (hl.trans hl1)))
      obtain⟨a0,rfl,hm0,hl',h'⟩:=h'
      exact⟨hl',ih _ a0 w' w' hB hSg h' hm0 (Later.refl _) (((hl1.trans hl').below.block g (by
       rcases QDq g w2.heap.size with hlt|hge
       ·exact hlt
       ·rw[QDS hge]at hg
        cases hg)).trans hg)⟩
    | 2,_=>
      obtain⟨o,ho,h⟩:=h
      obtain rfl:o=ok:=Option.some.inj (ho.symm.trans hok)
      refine⟨o,ho,fun w1 g' hl1 hb' hS' hg'=>?_⟩
      rw[Act.put_comm a _ _ h2,QqB]
      exact ih _ _ w1 w1 hB (fun hx=>hx.elim (fun e=>hS' (.inl e.symm)) hSg) (h w1 g' (hl.trans hl1) hb' (fun hx=>hS' (.inr hx)) hg') (keep a hm _) (Later.refl _) ((hl1.below.block g (by
       rcases QDq g w2.heap.size with hlt|hge
       ·exact hlt
       ·rw[QDS hge]at hg
        cases hg)).trans hg)
def mkB (ops:Array Oper) (j:Nat) (l:List (Nat×Nat)):Bool:=((ops[j]?).map fun oj=>QdY ops oj j l).getD false
theorem Qvi {j:Nat} {l:List (Nat×Nat)} (h:mkB ops j l=true):∃oj,ops[j]?=some oj∧QdY ops oj j l=true:=by
 unfold mkB at h
 cases hq:ops[j]? with
 | none=>simp[hq]at h
 | some o=>exact⟨o,rfl,by simpa [hq] using h⟩
theorem Qg5 {oi:Oper} {i:Nat}:∀ {l:List (Nat×Nat)},QdY ops oi i l=true→(i,2)∈l
 | [],h=>by simp[QdY]at h
 | (k,kd) :: r,h=>by
   unfold QdY at h
   by_cases hk:k=i
   ·rw[if_pos hk]at h
    obtain rfl:kd=2:=by simpa using h
    subst hk
    simp
   ·rw[if_neg hk]at h
    simp only[QCG]at h
    exact QEg _ (Qg5 h.2)
theorem Qcu (i:Nat):∀(l:List (Nat×Nat)) (x:Nat×Nat),x∈Qct i l→x∈l
 | [],_,h=>h
 | (k,kd) :: r,x,h=>by
   unfold Qct at h
   split at h
   ·exact QEg _ h
   ·rcases QCQ.1 h with rfl|h
    ·exact List.mem_cons_self
    ·exact QEg _ (Qcu i r x h)
theorem Qel {oi:Oper} {i:Nat}:∀ {l:List (Nat×Nat)},QdY ops oi i l=true→(Qct i l).length+1=l.length
 | [],h=>by simp[QdY]at h
 | (k,kd) :: r,h=>by
   unfold QdY at h
   unfold Qct
   by_cases hk:k=i
   ·rw[if_pos hk]
    rfl
   ·rw[if_neg hk]at h
    rw[if_neg hk]
    simp only[QCG]at h
    simp[Qel h.2]
def okM (ops:Array Oper) (tl:Nat→Bool):Nat→Bool→List (Nat×Nat)→Array Bool→Bool
 | _,_,[],listed=>(Region.ready .any ops listed).isEmpty
 | 0,_,_ :: _,_=>false
 | n+1,fz,(i,kd) :: r,listed=>
   let rd:=Region.ready .any ops listed
   if kd=0 then fz&&rd.contains i&&Region.free .any ops listed i&&((ops[i]?).map calm).getD false&& !tl i&&okM ops tl n fz r (listed.setIfInBounds i true)
   else if kd=1 then fz&& !tl i&&rd.contains i&&rd.all fun j=>if j=i then okM ops tl n fz r (listed.setIfInBounds i true) else mkB ops j ((i,kd) :: r)&& !tl j&&okM ops tl n fz (Qct j ((i,kd) :: r)) (listed.setIfInBounds j true)
   else if kd=2 then fz&& !rd.isEmpty&&rd.all fun j=>mkB ops j ((i,kd) :: r)&& !tl j&&okM ops tl n fz (Qct j ((i,kd) :: r)) (listed.setIfInBounds j true)
   else decide (rd=[i])&&tl i&&okM ops tl n false r (listed.setIfInBounds i true)
def Sep (ops:Array Oper) (l:List (Nat×Nat)):Prop:=
 ∀i oi,(i,2)∈l→ops[i]?=some oi→∀k kd ok,(k,kd)∈l→k≠i→ops[k]?=some ok→∀d,ok.dst=some d→d∉oi.looksAt ops
theorem Sep.sub {l l':List (Nat×Nat)} (h:Sep ops l) (hs:∀x,x∈l'→x∈l):Sep ops l':=
 fun i oi hi ho k kd ok hk hne hok d hd=>h i oi (hs _ hi) ho k kd ok (hs _ hk) hne hok d hd
def Specs (P:Program) (ops:Array Oper) (mk:Nat→(Nat→Value)×Obj) (l:List (Nat×Nat)) (a:Act):Prop:=∀i oi,(i,2)∈l→ops[i]?=some oi→Makes P ops oi (mk i).1 (mk i).2 a
theorem Specs.put {mk:Nat→(Nat→Value)×Obj} {l l':List (Nat×Nat)} {a:Act} {k kd:Nat} {ok:Oper} (h:Specs P ops mk l' a) (hs:∀x,x∈l'→x∈l) (hsep:Sep ops l) (hk:(k,kd)∈l) (hok:ops[k]?=some ok) (hnot:k∉l'.map (·.1))
 (hsel:∀(j:Nat) (o:Oper) cs b,ops[j]?=some o→o.op≠ .select cs b) (x:Value):Specs P ops mk l' (a.put ok.dst x):=by
 intro i oi hi ho
 have hne:k≠i:=fun e=>hnot (QC7.2 ⟨_,hi,e.symm⟩)
 have h3:=hsep i oi (hs _ hi) ho k kd ok hk hne hok
 exact (h i oi hi ho).of_same (execOp_put oi (fun cs b=>hsel i oi cs b ho) a ok.dst x h3) (wanted_put oi a ok.dst x h3)
theorem Specs.defers {mk:Nat→(Nat→Value)×Obj} {l:List (Nat×Nat)} {a:Act} (h:Specs P ops mk l a) (d:Deferred):Specs P ops mk l { a with defers:=d :: a.defers }:=
 fun i oi hi ho=>(h i oi hi ho).of_same rfl rfl
theorem QcP (w:World) (o:Obj):Later w (w.alloc o):=.of_below ((Below.refl _ _).alloc (QCx _) o)
theorem QeE {i:Nat}:∀ {l:List (Nat×Nat)},(l.map (·.1)).Nodup→((Qct i l).map (·.1)).Nodup∧i∉(Qct i l).map (·.1)
 | [],_=>by simp[Qct]
 | (k,kd) :: r,h=>by
   simp only[QCR,QEf]at h
   unfold Qct
   by_cases hk:k=i
   ·rw[if_pos hk]
    subst hk
    exact⟨h.2,h.1⟩
   ·rw[if_neg hk]
    obtain⟨h1,h2⟩:=QeE (i:=i) h.2
    refine⟨?_,?_⟩
    ·simp only[QCR,QEf]
     refine⟨fun hm=>h.1 ?_,h1⟩
     obtain⟨x,hx,he⟩:=QC7.1 hm
     exact QC7.2 ⟨x,Qcu i r x hx,he⟩
    ·simp only[QCR,QCQ,not_or]
     exact⟨fun e=>hk e.symm,h2⟩
theorem sim {base:Nat} {mk:Nat→(Nat→Value)×Obj} {ts:List Nat} (hT:Qje ops ts=true) (hsel:∀(j:Nat) (o:Oper) cs b,ops[j]?=some o→o.op≠ .select cs b)
 (hQ1:∀c a d v w,Q (.panic c) (a.put d v) w→Q (.panic c) a w) (hQ2:∀c a d v w,Q (.panic c) a w→Q (.panic c) (a.put d v) w):
 ∀(n:Nat) (S:Nat→Prop) (fz:Bool) (l:List (Nat×Nat)) (listed:Array Bool) (a:Act) (w:World),l.length=n→(l.map (·.1)).Nodup→okM ops ts.contains n fz l listed=true→Closed ops listed→Sep ops l→(fz=true→Specs P ops mk l a∧base≤w.heap.size∧∀n,S n→n<w.heap.size)→
  wpM P ops Q base mk S fz l a w→Qdw P ops Q ts.contains n listed a w
 | 0,S,fz,l,listed,a,w,hn,_,hB,_,_,_,h=>by
   obtain rfl:l=[]:=QC0 hn
   unfold okM at hB
   exact⟨by simpa using hB,h⟩
 | n+1,S,fz,[],_,_,_,hn,_,_,_,_,_,_=>by simp at hn
 | n+1,S,fz,(i,kd) :: r,listed,a,w,hn,hnd,hB,hcl,hsep,hfzz,h=>by
   have hr':r.length=n:=by simpa using hn
   have hnd':=hnd
   simp only[QCR,QEf]at hnd'
   have ih:=fun S fz l listed a w=>sim (base:=base) (mk:=mk) hT hsel hQ1 hQ2 n S fz l listed a w
   have hsub:∀x,x∈r→x∈(i,kd) :: r:=fun x hx=>QEg _ hx
   have hspr:fz=true→Specs P ops mk r a:=fun hf k ok hk hok=>(hfzz hf).1 k ok (hsub _ hk) hok
   have made:∀j,fz=true→mkB ops j ((i,kd) :: r)=true→ts.contains j=false→okM ops ts.contains n fz (Qct j ((i,kd) :: r)) (listed.setIfInBounds j true)=true→j∈Region.ready .any ops listed→
    wpOp P ops Q j (fun a' w'=>(ts.contains j=false→Later w w')∧Qdw P ops Q ts.contains n (listed.setIfInBounds j true) a' w') a w:=by
    intro j hfz hmk htj hok hj
    subst hfz
    obtain⟨hsp,hb,hSb⟩:=hfzz rfl
    obtain⟨oj,hoj,hah⟩:=Qvi hmk
    have hmem:=Qg5 hah
    obtain⟨hw,hrun⟩:=hsp j oj hmem hoj
    have hlen:=Qel hah
    have hst:=QeE (i:=j) hnd
    unfold wpOp
    simp only[hoj,hw,if_true]
    refine .inl ?_
    unfold Oper.wp
    rw[hrun w]
    refine⟨fun _=>QcP w _,ih (fun n=>n=w.heap.size∨S n) true _ _ _ _ (by rw[QDj]at hlen;omega) hst.1 hok (hcl.set hj) (hsep.sub (Qcu j _)) (fun _=>⟨?_,QC4 hb (QcP w _).below.size,fun n hn=>by
     have hsz:(w.alloc (mk j).2).heap.size=w.heap.size+1:=by simp
     rw[hsz]
     rcases hn with rfl|hn
     ·omega
     ·have:=hSb n hn
      omega⟩) ?_⟩
    ·exact Specs.put (l:=(i,kd) :: r) (fun k ok hk hok'=>hsp k ok (Qcu j _ _ hk) hok') (Qcu j _) hsep hmem hoj hst.2 hsel _
    ·exact Qv4 hoj hsel hQ2 hb _ S a w _ hah (fun hx=>Nat.lt_irrefl _ (hSb _ hx)) h ⟨hw,hrun⟩ (QcP w _) (heap_alloc_new w _)
   unfold okM at hB
   simp only at hB
   by_cases h0:kd=0
   ·subst h0
    simp only[if_true,QCG]at hB
    obtain⟨⟨⟨⟨⟨hfz,hrd⟩,hf⟩,hcm⟩,htl⟩,hok⟩:=hB
    subst hfz
    obtain⟨o,ho,h⟩:=h
    have hri:i∈Region.ready .any ops listed:=by simpa using hrd
    have hcm':calm o=true:=by simpa [ho] using hcm
    have htl':ts.contains i=false:=by simpa using htl
    have next:∀v,YieldsIf P ops (Later w) o v a→wpM P ops Q base mk S true r (a.put o.dst v) w→Qdw P ops Q ts.contains (n+1) listed a w:=fun v hy hnx=>
     Qfn hT ho htl' hsel (fun c a w=>hQ1 c a _ _ w) hcl (Region.free_spec ho hf) hri hy
      (ih S true r _ _ w hr' hnd'.2 hok (hcl.set hri) (hsep.sub hsub) (fun _=>⟨Specs.put (l:=(i,0) :: r) (hspr rfl) hsub hsep List.mem_cons_self ho hnd'.1 hsel v,(hfzz rfl).2⟩) hnx)
    by_cases hw:Region.wanted o (yielded ops a.tmps)=true
    ·rw[if_pos hw]at h
     obtain⟨v,hy,hnx⟩:=Qc8 hcm' hw h
     exact next v hy hnx
    ·rw[if_neg hw]at h
     exact next undef (.inr ⟨by simpa using hw,rfl⟩) h
   ·rw[if_neg h0]at hB
    by_cases h1:kd=1
    ·subst h1
     simp only[if_true,QCG,QDE]at hB
     obtain⟨⟨⟨hfz,htl⟩,hrd⟩,hall⟩:=hB
     subst hfz
     have hri:i∈Region.ready .any ops listed:=by simpa using hrd
     refine⟨fun he=>(by rw[he]at hri;cases hri),fun j hj=>?_⟩
     have hj2:=QDa.1 hall j hj
     by_cases hji:j=i
     ·subst hji
      rw[if_pos rfl]at hj2
      obtain⟨_,oi,hoi,_⟩:=mem_ready.1 hri
      refine wpOp_mono (fun a' w' h'=>?_) (QpL hoi (I:=Specs P ops mk r) (hspr rfl) (fun a hI x=>Specs.put (l:=(j,1) :: r) hI hsub hsep List.mem_cons_self hoi hnd'.1 hsel x) (fun a hI d=>hI.defers d) (h w (Later.refl w)))
      obtain⟨hI,hl',h'⟩:=h'
      exact⟨fun _=>hl',ih S true r _ a' w' hr' hnd'.2 hj2 (hcl.set hj) (hsep.sub hsub) (fun _=>⟨hI,QC4 (hfzz rfl).2.1 hl'.below.size,fun n hn=>QCM ((hfzz rfl).2.2 n hn) hl'.below.size⟩) h'⟩
     ·rw[if_neg hji]at hj2
      simp only[QCG,QDE]at hj2
      exact made j rfl hj2.1.1 hj2.1.2 hj2.2 hj
    ·rw[if_neg h1]at hB
     by_cases h2:kd=2
     ·subst h2
      simp only[if_true,QCG,QDE]at hB
      obtain⟨⟨hfz,hne⟩,hall⟩:=hB
      refine⟨fun he=>(by rw[he]at hne;simp at hne),fun j hj=>?_⟩
      have hj2:=QDa.1 hall j hj
      simp only[QCG,QDE]at hj2
      exact made j hfz hj2.1.1 hj2.1.2 hj2.2 hj
     ·rw[if_neg h2]at hB
      simp only[QCG,decide_eq_true_eq]at hB
      obtain⟨⟨hrd,htl⟩,hok⟩:=hB
      refine⟨fun he=>(by rw[hrd]at he;cases he),fun j hj=>?_⟩
      rw[hrd]at hj
      obtain rfl:j=i:=by simpa using hj
      have hri:j∈Region.ready .any ops listed:=by rw[hrd];simp
      obtain⟨_,oi,hoi,_⟩:=mem_ready.1 hri
      have h':wpOp P ops Q j (fun a' w'=>wpM P ops Q base mk S false r a' w') a w:=by
       obtain⟨m,rfl⟩:∃m,kd=m+3:=⟨kd-3,by omega⟩
       cases fz with
       | true=>exact h w (Later.refl w)
       | false=>exact h
      exact wpOp_mono (fun a' w' h'=>⟨fun hc=>(by rw[htl]at hc;cases hc),ih S false r _ a' w' hr' hnd'.2 hok (hcl.set hri) (hsep.sub hsub) (fun hf=>by cases hf) h'⟩) h'
end
section
variable {P:Program} {Q:Exit→Act→World→Prop}
def Qbp (P:Program) (l:List Oper) (Q:Exit→Act→World→Prop) (base:Nat) (mk:Nat→(Nat→Value)×Obj) (qs ts:List Nat):(Nat→Prop)→List (List Nat×Nat×Nat)→Act→World→Prop
 | _,[],a,w=>wpQuiet P l.toArray (fun w'=>∃x,w'=grow w x) (fun a'=>∀w1,Later w w1→wpList P l.toArray Q (pick l ts) a' w1) (pick l qs) a
 | S,(q,1,i) :: r,a,w=>wpQuiet P l.toArray (fun w'=>∃x,w'=grow w x) (fun a'=>∀w1,Later w w1→wpList P l.toArray (Exit.then (fun a'' w''=>Later w1 w''∧Qbp P l Q base mk qs ts S r a'' w'') Q) (pick l [i]) a' w1) (pick l q) a
 | S,(q,_,i) :: r,a,w=>wpQuiet P l.toArray (fun w'=>∃x,w'=grow w x) (fun a'=>∀w1 g,Later w w1→base≤g→ ¬S g→w1.heap[g]?=some (mk i).2→Qbp P l Q base mk qs ts (fun n=>n=g∨S n) r (a'.put ((l[i]?).bind (·.dst)) ((mk i).1 g)) w1) (pick l q) a
def QhC (qs ts:List Nat):List (List Nat×Nat×Nat)→List (Nat×Nat)
 | []=>qs.map (·,0)++ts.map (·,3)
 | (q,1,i) :: r=>q.map (·,0)++(i,1) :: QhC qs ts r
 | (q,_,i) :: r=>q.map (·,0)++(i,2) :: QhC qs ts r
theorem Qk7 {l:List Oper} {base:Nat} {mk:Nat→(Nat→Value)×Obj} {S:Nat→Prop} {Qa:Act→Prop} {r:List (Nat×Nat)} {w:World} (hQa:∀a,Qa a→wpM P l.toArray Q base mk S true r a w):∀(qs:List Nat),(qs.all fun i=>decide (i<l.length))=true→
 ∀a,wpQuiet P l.toArray (Later w) Qa (pick l qs) a→wpM P l.toArray Q base mk S true (qs.map (·,0)++r) a w
 | [],_,a,h=>hQa a h
 | i :: qs,hb,a,h=>by
   simp only[QDA,QCG,decide_eq_true_eq]at hb
   have hi:l[i]?=some (l[i]'hb.1):=QCv hb.1
   refine⟨l[i]'hb.1,by simp[hb.1],?_⟩
   simp only[pick,hi,QCq,QDW,wpQuiet]at h
   by_cases hw:Region.wanted (l[i]'hb.1) (yielded l.toArray a.tmps)=true
   ·rw[if_pos hw]at h ⊢
    exact Oper.quiet_mono (fun a' h'=>Qk7 hQa qs hb.2 a' h') h
   ·rw[if_neg hw]at h ⊢
    exact Qk7 hQa qs hb.2 _ h
theorem Qyq {l:List Oper} {base:Nat} {mk:Nat→(Nat→Value)×Obj} {S:Nat→Prop}:∀(ts:List Nat),(ts.all fun i=>decide (i<l.length))=true→
 ∀a w,wpList P l.toArray Q (pick l ts) a w→wpM P l.toArray Q base mk S false (ts.map (·,3)) a w
 | [],_,a,w,h=>h
 | i :: ts,hb,a,w,h=>by
   simp only[QDA,QCG,decide_eq_true_eq]at hb
   have hi:l[i]?=some (l[i]'hb.1):=QCv hb.1
   simp only[pick,hi,QCq,QDW,wpList]at h
   show wpOp P l.toArray Q i _ a w
   unfold wpOp
   simp only[List.getElem?_toArray,hi]
   by_cases hw:Region.wanted (l[i]'hb.1) (yielded l.toArray a.tmps)=true
   ·rw[if_pos hw]at h ⊢
    exact h.imp (Oper.wp_mono fun a w1 h=>Qyq ts hb.2 a w1 h) id
   ·rw[if_neg hw]at h ⊢
    exact Qyq ts hb.2 _ _ h
theorem QyU {l:List Oper} {base:Nat} {mk:Nat→(Nat→Value)×Obj} {S:Nat→Prop} (ts:List Nat) (hb:(ts.all fun i=>decide (i<l.length))=true) (a:Act) (w:World) (h:∀w1,Later w w1→wpList P l.toArray Q (pick l ts) a w1):
 wpM P l.toArray Q base mk S true (ts.map (·,3)) a w:=by
 cases ts with
 | nil=>exact h w (Later.refl w)
 | cons i ts=>
   intro w1 hl
   exact Qyq (i :: ts) hb a w1 (h w1 hl)
theorem QvX {l:List Oper} {base:Nat} {mk:Nat→(Nat→Value)×Obj} {qs ts:List Nat} (hq:(qs.all fun i=>decide (i<l.length))=true) (ht:(ts.all fun i=>decide (i<l.length))=true):
 ∀(segs:List (List Nat×Nat×Nat)),(segs.all fun s=>decide (s.2.2<l.length)&&s.1.all fun i=>decide (i<l.length))=true→∀S a w,Qbp P l Q base mk qs ts S segs a w→wpM P l.toArray Q base mk S true (QhC qs ts segs) a w
 | [],_,S,a,w,h=>Qk7 (fun a h=>QyU ts ht a w h) qs hq a h
 | (q,kd,i) :: r,hb,S,a,w,h=>by
   simp only[QDA,QCG,decide_eq_true_eq]at hb
   have ih:=QvX (base:=base) (mk:=mk) hq ht r hb.2
   by_cases h1:kd=1
   ·subst h1
    refine Qk7 (fun a h=>?_) q hb.1.2 a h
    intro w1 hl
    exact wpOp_mono (fun a' w' h'=>⟨h'.1,ih S a' w' h'.2⟩) (Qcm hb.1.1 (h w1 hl))
   ·have e1:QhC qs ts ((q,kd,i) :: r)=q.map (·,0)++(i,2) :: QhC qs ts r:=by
     match kd,h1 with
     | 0,_=>rfl
     | k+2,_=>rfl
    rw[e1]
    have h':wpQuiet P l.toArray (fun w'=>∃x,w'=grow w x) (fun a'=>∀w1 g,Later w w1→base≤g→ ¬S g→w1.heap[g]?=some (mk i).2→Qbp P l Q base mk qs ts (fun n=>n=g∨S n) r (a'.put ((l[i]?).bind (·.dst)) ((mk i).1 g)) w1) (pick l q) a:=by
     match kd,h1,h with
     | 0,_,h=>exact h
     | k+2,_,h=>exact h
    refine Qk7 (fun a h=>?_) q hb.1.2 a h'
    have hi:l[i]?=some (l[i]'hb.1.1):=QCv hb.1.1
    refine⟨l[i]'hb.1.1,by simp[hb.1.1],fun w1 g hl hg hS hh=>?_⟩
    have:=h w1 g hl hg hS hh
    rw[hi]at this
    exact ih _ _ w1 this
def MakesAll (P:Program) (l:List Oper) (mk:Nat→(Nat→Value)×Obj) (a:Act):List Nat→Prop
 | []=>True
 | i :: r=>(∀ o,l[i]?=some o→Makes P l.toArray o (mk i).1 (mk i).2 a)∧MakesAll P l mk a r
theorem MakesAll.at_ {l:List Oper} {mk:Nat→(Nat→Value)×Obj} {a:Act}:∀ {ms:List Nat},MakesAll P l mk a ms→∀i∈ms,∀o,l[i]?=some o→Makes P l.toArray o (mk i).1 (mk i).2 a
 | [],_,i,hi=>by cases hi
 | m :: ms,h,i,hi=>by
   rcases QCQ.1 hi with rfl|hi
   ·exact h.1
   ·exact MakesAll.at_ h.2 i hi
def sepB (l:List Oper) (f:List (Nat×Nat)):Bool:=
 f.all fun x=>decide (x.2≠2)||f.all fun y=>decide (y.1=x.1)||((l[x.1]?).bind fun oi=>(l[y.1]?).map fun ok=>match ok.dst with
  | some d=> !((oi.looksAt l.toArray).contains d)
  | none=>true).getD false
theorem Qlr {l:List Oper} {f:List (Nat×Nat)} (h:sepB l f=true):Sep l.toArray f:=by
 intro i oi hi ho k kd ok hk hne hok d hd hmem
 have h1:=QDa.1 h _ hi
 simp only[ne_eq,not_true_eq_false,decide_false,QEC]at h1
 have h2:=QDa.1 h1 _ hk
 have ho':l[i]?=some oi:=by simpa using ho
 have hok':l[k]?=some ok:=by simpa using hok
 simp only[hne,decide_false,QEC,ho',hok',QDF,QD7,QEr,hd,QDE]at h2
 have:(oi.looksAt l.toArray).contains d=true:=by simpa using hmem
 rw[this]at h2
 cases h2
def Qua (l:List Oper) (pre:List Nat) (tl:Nat→Bool):List Nat→Array Bool→Bool
 | [],_=>true
 | i :: r,listed=>(Region.ready .any l.toArray listed).contains i&&Region.free .any l.toArray listed i&&((l[i]?).map calm).getD false&& !tl i&&Qua l pre tl r (listed.setIfInBounds i true)
def Qki (l:List Nat) (listed:Array Bool):Array Bool:=l.foldl (fun s i=>s.setIfInBounds i true) listed
def Qts (l:List Oper) (pre qs ts ms:List Nat) (segs:List (List Nat×Nat×Nat)):Bool:=
 Region.noSelect l.toArray&&Qje l.toArray ts&&(pre.all fun i=>decide (i<l.length))&&(qs.all fun i=>decide (i<l.length))&&(ts.all fun i=>decide (i<l.length))&&(segs.all fun s=>decide (s.2.2<l.length)&&s.1.all fun i=>decide (i<l.length)) &&
 Qua l pre ts.contains pre (QDL l.length false)&&okM l.toArray ts.contains (QhC qs ts segs).length true (QhC qs ts segs) (Qki pre (QDL l.length false)) &&
 sepB l (QhC qs ts segs)&&decide (((QhC qs ts segs).map (·.1)).Nodup)&&decide (pre.length+(QhC qs ts segs).length=l.length)&&(QhC qs ts segs).all fun x=>decide (x.2≠2)||ms.contains x.1
theorem Qlx {l:List Oper} {pre ts:List Nat} {n:Nat} {w:World} {Qa:Act→Prop} (hT:Qje l.toArray ts=true) (hsel:∀(j:Nat) (o:Oper) cs b,l.toArray[j]?=some o→o.op≠ .select cs b)
 (hQ1:∀c a d v w,Q (.panic c) (a.put d v) w→Q (.panic c) a w):∀(p:List Nat) (listed:Array Bool) (a:Act),Closed l.toArray listed→Qua l pre ts.contains p listed=true→(p.all fun i=>decide (i<l.length))=true→
   wpQuiet P l.toArray (Later w) Qa (pick l p) a→(∀ a',Qa a'→Closed l.toArray (Qki p listed)→Qdw P l.toArray Q ts.contains n (Qki p listed) a' w)→Qdw P l.toArray Q ts.contains (p.length+n) listed a w
 | [],listed,a,hcl,_,_,h,hk=>by
   rw[List.length_nil,QCI]
   exact hk a h hcl
 | i :: p,listed,a,hcl,hB,hb,h,hk=>by
   simp only[Qua,QCG]at hB
   obtain⟨⟨⟨⟨hrd,hf⟩,hcm⟩,htl⟩,hB'⟩:=hB
   simp only[QDA,QCG,decide_eq_true_eq]at hb
   have hi:l[i]?=some (l[i]'hb.1):=QCv hb.1
   have ho:l.toArray[i]?=some (l[i]'hb.1):=by simp[hb.1]
   have hri:i∈Region.ready .any l.toArray listed:=by simpa using hrd
   have hcm':calm (l[i]'hb.1)=true:=by rw[hi]at hcm;simpa using hcm
   have htl':ts.contains i=false:=by simpa using htl
   simp only[pick,hi,QCq,QDW,wpQuiet]at h
   rw[show (i :: p).length+n=(p.length+n)+1 by simp;omega]
   have next:∀v,YieldsIf P l.toArray (Later w) (l[i]'hb.1) v a→wpQuiet P l.toArray (Later w) Qa (pick l p) (a.put (l[i]'hb.1).dst v)→Qdw P l.toArray Q ts.contains (p.length+n+1) listed a w:=fun v hy hnx=>
    Qfn hT ho htl' hsel (fun c a w=>hQ1 c a _ _ w) hcl (Region.free_spec ho hf) hri hy (Qlx hT hsel hQ1 p _ _ (hcl.set hri) hB' hb.2 hnx hk)
   by_cases hw:Region.wanted (l[i]'hb.1) (yielded l.toArray a.tmps)=true
   ·rw[if_pos hw]at h
    obtain⟨v,hy,hnx⟩:=Qc8 hcm' hw h
    exact next v hy hnx
   ·rw[if_neg hw]at h
    exact next undef (.inr ⟨by simpa using hw,rfl⟩) h
theorem QaG {id:Nat} {a:Act} {w:World} {l:List Oper} (pre:List Nat) (segs:List (List Nat×Nat×Nat)) (qs ts ms:List Nat) (mk:Nat→(Nat→Value)×Obj) (hm:P.follows .mixedOrders=true) (hB:Qts l pre qs ts ms segs=true)
 (hQ1:∀c a d v w,Q (.panic c) (a.put d v) w→Q (.panic c) a w) (hQ2:∀c a d v w,Q (.panic c) a w→Q (.panic c) (a.put d v) w)
 (h:wpQuiet P l.toArray (fun w'=>∃x,w'=grow w.drew x) (fun a'=>MakesAll P l mk a' ms∧Qbp P l Q w.heap.size mk qs ts (fun _=>False) segs a' w.drew) (pick l pre) a):(Code.region id l.toArray true).wp P Q a w:=by
 simp only[Qts,QCG,decide_eq_true_eq]at hB
 obtain⟨⟨⟨⟨⟨⟨⟨⟨⟨⟨⟨hs,hT⟩,hp⟩,hq⟩,ht⟩,hsg⟩,hph⟩,hok⟩,hsep⟩,hnd⟩,hlen⟩,hms⟩:=hB
 refine wp_region_any hm (Qfy (tl:=ts.contains) _ _ _ _ ?_)
 have hsel:=Region.noSelect_spec hs
 have:=Qlx (P:=P) (Q:=Q) (pre:=pre) (n:=(QhC qs ts segs).length) (w:=w.drew) hT hsel hQ1 pre (QDL l.length false) a (Qe0 l) hph hp h (fun a' ⟨h1,h2⟩ hcl=>
  sim (base:=w.heap.size) (mk:=mk) hT hsel hQ1 hQ2 _ (fun _=>False) true _ _ a' w.drew rfl hnd hok hcl (Qlr hsep)
   (fun _=>⟨fun i oi hi ho=>h1.at_ i (by
     have h3:=QDa.1 hms _ hi
     simpa using h3) oi (by simpa using ho),QCx _,fun _ h=>h.elim⟩) (QvX hq ht segs hsg _ a' w.drew h2))
 rw[hlen]at this
 simpa using this
end
section
variable {P:Program} {ops:Array Oper} {Q:Exit→Act→World→Prop} {T:World→Prop}
def Qhx (P:Program) (ops:Array Oper) (Q:Exit→Act→World→Prop) (T:World→Prop):Nat→Array Bool→Act→World→Prop
 | 0,listed,a,w=>Region.ready .any ops listed=[]∧Q .normal a w
 | fuel+1,listed,a,w=>
   (Region.ready .any ops listed=[]→Q .normal a w)∧
   ∀i∈Region.ready .any ops listed,wpOp P ops Q i (fun a' w'=>T w'∧Qhx P ops Q T fuel (listed.setIfInBounds i true) a' w') a w
theorem Qg8:∀(fuel:Nat) (listed:Array Bool) (a:Act) (w:World),Qhx P ops Q T fuel listed a w→wpAny P .any ops Q fuel listed a w
 | 0,_,_,_,h=>h
 | fuel+1,_,_,_,h=>⟨h.1,fun i hi=>wpOp_mono (fun a' w' h'=>Qg8 fuel _ a' w' h'.2) (h.2 i hi)⟩
theorem Qcn {o:Oper} {a:Act} {K:Act→Prop} (hc:calm o=true) (hw:Region.wanted o (yielded ops a.tmps)=true) (h:o.quiet P a T K):
 ∃v,YieldsIf P ops T o v a∧K (a.put o.dst v):=by
 obtain⟨v,h1,h2⟩:=h
 refine⟨v,.inl ⟨hw,fun w hl=>?_⟩,h2⟩
 have h3:=h1 w hl
 unfold Oper.quietAt at h3
 cases hr:(execOp a.eval o).run P w with
 | halt x w'=>rw[hr]at h3;exact absurd h3 (by simp[Oper.quietUpon])
 | ok n w'=>
   obtain⟨u,rfl⟩:=QfG hc hr
   rw[hr]at h3
   obtain⟨rfl,rfl⟩:=h3
   rfl
theorem Qhn {i:Nat} {oi:Oper} {v:Value} (hi:ops[i]?=some oi) (hsel:∀(j:Nat) (o:Oper) cs b,ops[j]?=some o→o.op≠ .select cs b)
 (hQ:∀c a w,Q (.panic c) (a.put oi.dst v) w→Q (.panic c) a w):
 ∀(fuel:Nat) (listed:Array Bool) (a:Act) (w:World),
  (∀ j oj,ops[j]?=some oj→j≠i→listed.getD j true=false→(∀ e∈oj.after,Region.binds .any e=true→e.on≠i)→oi.apart ops oj=true)→
  i∈Region.ready .any ops listed→YieldsIf P ops T oi v a→T w→
  Qhx P ops Q T fuel (listed.setIfInBounds i true) (a.put oi.dst v) w→Qhx P ops Q T (fuel+1) listed a w:=by
 intro fuel
 induction fuel with
 | zero=>
   intro listed a w _ hr hy hS H
   refine⟨fun h=>(by rw[h]at hr;cases hr),fun j hj=>?_⟩
   by_cases hji:j=i
   ·subst hji;exact hy.wpOp hi hS ⟨hS,H⟩
   ·have:=ready_mono hj hji
    rw[H.1]at this
    cases this
 | succ fuel ih=>
   intro listed a w hfree hr hy hS H
   refine⟨fun h=>(by rw[h]at hr;cases hr),fun j hj=>?_⟩
   by_cases hji:j=i
   ·subst hji;exact hy.wpOp hi hS ⟨hS,H⟩
   ·have h1:=H.2 j (ready_mono hj hji)
    obtain⟨hjun,oj,hoj,hall⟩:=mem_ready.1 hj
    have hiun:=(mem_ready.1 hr).1
    have hnot:∀e∈oj.after,Region.binds .any e=true→e.on≠i:=fun e he hb heq=>by
     have h1:=hall e he hb
     rw[heq,QbV hiun]at h1
     cases h1
    have h2:=wpOp_putIf hoj (hfree j oj hoj hji hjun hnot) (fun cs b=>hsel i oi cs b hi) (fun cs b=>hsel j oj cs b hoj) hQ hy h1
    have hfree':∀k ok,ops[k]?=some ok→k≠i→(listed.setIfInBounds j true).getD k true=false→
     (∀ e∈ok.after,Region.binds .any e=true→e.on≠i)→oi.apart ops ok=true:=fun k ok hk hki hun hno=>by
     refine hfree k ok hk hki ?_ hno
     by_cases hjk:j=k
     ·subst hjk;exact hjun
     ·rw[getD_set_ne true hjk]at hun;exact hun
    refine wpOp_mono (fun a' w' h3=>⟨h3.2.1,ih (listed.setIfInBounds j true) a' w' hfree' (ready_mono hr (Ne.symm hji)) h3.1 h3.2.1 ?_⟩) h2
    rw[Array.setIfInBounds_comm _ _ hji]
    exact h3.2.2
def wpN (P:Program) (ops:Array Oper) (Q:Exit→Act→World→Prop) (T:World→Prop) (base:Nat) (mk:Nat→(Nat→Value)×Obj):(Nat→Prop)→Bool→List (Nat×Nat)→Act→World→Prop
 | _,_,[],a,w=>Q .normal a w
 | S,fz,(i,0) :: r,a,w=>∃o,ops[i]?=some o∧if Region.wanted o (yielded ops a.tmps) then o.quiet P a T (fun a'=>wpN P ops Q T base mk S fz r a' w) else wpN P ops Q T base mk S fz r (a.put o.dst undef) w
 | S,fz,(i,2) :: r,a,w=>∃o,ops[i]?=some o∧∀w1 g,Later w w1→base≤g→ ¬S g→w1.heap[g]?=some (mk i).2→wpN P ops Q T base mk (fun n=>n=g∨S n) fz r (a.put o.dst ((mk i).1 g)) w1
 | S,true,(i,_) :: r,a,w=>∀w1,Later w w1→wpOp P ops Q i (fun a' w'=>T w'∧wpN P ops Q T base mk S false r a' w') a w1
 | S,false,(i,_) :: r,a,w=>wpOp P ops Q i (fun a' w'=>T w'∧wpN P ops Q T base mk S false r a' w') a w
def Qgo (ops:Array Oper) (oi:Oper) (i:Nat):List (Nat×Nat)→Bool
 | []=>false
 | (k,kd) :: r=>if k=i then decide (kd=2) else (decide (kd=0)||decide (kd=2))&&((ops[k]?).map fun ok=>oi.apart ops ok&&(kd != 0||calm ok)).getD false&&Qgo ops oi i r
theorem Qfu {oi:Oper} {i:Nat}:∀ {l:List (Nat×Nat)},Qgo ops oi i l=true→QdY ops oi i l=true
 | [],h=>by simp[Qgo]at h
 | (k,kd) :: r,h=>by
   unfold Qgo at h
   unfold QdY
   by_cases hk:k=i
   ·rw[if_pos hk]at h ⊢
    exact h
   ·rw[if_neg hk]at h ⊢
    simp only[QCG,QEe,decide_eq_true_eq]at h ⊢
    exact⟨⟨by rcases h.1.1 with h|h<;>omega,h.1.2⟩,Qfu h.2⟩
theorem Qsf {base:Nat} {mk:Nat→(Nat→Value)×Obj} {i g:Nat} {oi:Oper} (hi:ops[i]?=some oi) (hsel:∀(j:Nat) (o:Oper) cs b,ops[j]?=some o→o.op≠ .select cs b) (hb:base≤g):
 ∀(l:List (Nat×Nat)) (S:Nat→Prop) (a:Act) (w w2:World),Qgo ops oi i l=true→ ¬S g→wpN P ops Q T base mk S true l a w→Makes P ops oi (mk i).1 (mk i).2 a→Later w w2→w2.heap[g]?=some (mk i).2→
  wpN P ops Q T base mk (fun n=>n=g∨S n) true (Qct i l) (a.put oi.dst ((mk i).1 g)) w2
 | [],_,_,_,_,hB,_,_,_,_,_=>by simp[Qgo]at hB
 | (k,kd) :: r,S,a,w,w2,hB,hSg,h,hm,hl,hg=>by
   unfold Qgo at hB
   unfold Qct
   by_cases hk:k=i
   ·subst hk
    rw[if_pos rfl]at hB
    rw[if_pos rfl]
    obtain rfl:kd=2:=by simpa using hB
    obtain⟨o,ho,h⟩:=h
    obtain rfl:o=oi:=Option.some.inj (ho.symm.trans hi)
    exact h w2 g hl hb hSg hg
   ·rw[if_neg hk]at hB
    rw[if_neg hk]
    simp only[QCG,QEe,decide_eq_true_eq]at hB
    obtain⟨⟨hkd,hap⟩,hB⟩:=hB
    obtain⟨ok,hok⟩:∃ok,ops[k]?=some ok:=by
     cases hq:ops[k]? with
     | none=>simp[hq]at hap
     | some o=>exact⟨o,rfl⟩
    have hap2:oi.apart ops ok=true∧(kd=0→calm ok=true):=by
     simp only[hok,QD7,QEr,QCG,QEe,bne_iff_ne]at hap
     exact⟨hap.1,fun h=>by rcases hap.2 with h'|h'<;>first|exact absurd h h'|exact h'⟩
    obtain⟨hap',hcalm⟩:=hap2
    obtain⟨h1,h2,h3⟩:=Oper.apart_spec hap'
    have hsi:=fun cs b=>hsel i oi cs b hi
    have hsk:=fun cs b=>hsel k ok cs b hok
    have keep:∀(a:Act),Makes P ops oi (mk i).1 (mk i).2 a→∀x,Makes P ops oi (mk i).1 (mk i).2 (a.put ok.dst x):=fun a hy x=>
     hy.of_same (execOp_put oi hsi a ok.dst x h3) (wanted_put oi a ok.dst x h3)
    have ih:=Qsf (mk:=mk) hi hsel hb r
    rcases hkd with rfl|rfl
    ·obtain⟨o,ho,h⟩:=h
     obtain rfl:o=ok:=Option.some.inj (ho.symm.trans hok)
     refine⟨o,ho,?_⟩
     rw[wanted_put o a oi.dst _ h1]
     split
     ·rename_i hw
      rw[if_pos hw]at h
      obtain⟨x,hx1,hx2⟩:=h
      refine⟨x,fun w' hw'=>?_,?_⟩
      ·have:=hx1 w' hw'
       unfold Oper.quietAt at *
       rw[execOp_put o hsk a oi.dst _ h1]
       cases hr:(execOp a.eval o).run P w' with
       | halt e w3=>rw[hr]at this;exact absurd this (by simp[Oper.quietUpon])
       | ok n w3=>
         rw[hr]at this
         obtain⟨y,rfl⟩:=QfG (hcalm rfl) hr
         exact this
      ·rw[Act.put_comm a _ x h2]
       exact ih _ _ w w2 hB hSg hx2 (keep a hm x) hl hg
     ·rename_i hw
      rw[if_neg hw]at h
      rw[Act.put_comm a _ undef h2]
      exact ih _ _ w w2 hB hSg h (keep a hm undef) hl hg
    ·obtain⟨o,ho,h⟩:=h
     obtain rfl:o=ok:=Option.some.inj (ho.symm.trans hok)
     refine⟨o,ho,fun w1 g' hl1 hb' hS' hg'=>?_⟩
     rw[Act.put_comm a _ _ h2,QqB]
     exact ih _ _ w1 w1 hB (fun hx=>hx.elim (fun e=>hS' (.inl e.symm)) hSg) (h w1 g' (hl.trans hl1) hb' (fun hx=>hS' (.inr hx)) hg') (keep a hm _) (Later.refl _) ((hl1.below.block g (by
      rcases QDq g w2.heap.size with hlt|hge
      ·exact hlt
      ·rw[QDS hge]at hg
       cases hg)).trans hg)
def mkN (ops:Array Oper) (j:Nat) (l:List (Nat×Nat)):Bool:=((ops[j]?).map fun oj=>Qgo ops oj j l).getD false
theorem QuU {j:Nat} {l:List (Nat×Nat)} (h:mkN ops j l=true):∃oj,ops[j]?=some oj∧Qgo ops oj j l=true:=by
 unfold mkN at h
 cases hq:ops[j]? with
 | none=>simp[hq]at h
 | some o=>exact⟨o,rfl,by simpa [hq] using h⟩
def okN (ops:Array Oper):Nat→Bool→List (Nat×Nat)→Array Bool→Bool
 | _,_,[],listed=>(Region.ready .any ops listed).isEmpty
 | 0,_,_ :: _,_=>false
 | n+1,fz,(i,kd) :: r,listed=>
   let rd:=Region.ready .any ops listed
   if kd=0 then fz&&rd.contains i&&Region.free .any ops listed i&&((ops[i]?).map calm).getD false&&okN ops n fz r (listed.setIfInBounds i true)
   else if kd=2 then fz&& !rd.isEmpty&&rd.all fun j=>mkN ops j ((i,kd) :: r)&&okN ops n fz (Qct j ((i,kd) :: r)) (listed.setIfInBounds j true)
   else decide (rd=[i])&&decide (kd=3)&&okN ops n false r (listed.setIfInBounds i true)
theorem simN {base:Nat} {mk:Nat→(Nat→Value)×Obj} (hsel:∀(j:Nat) (o:Oper) cs b,ops[j]?=some o→o.op≠ .select cs b)
 (hT:∀w w',T w→Later w w'→T w') (hQ1:∀c a d v w,Q (.panic c) (a.put d v) w→Q (.panic c) a w):
 ∀(n:Nat) (S:Nat→Prop) (fz:Bool) (l:List (Nat×Nat)) (listed:Array Bool) (a:Act) (w:World),l.length=n→(l.map (·.1)).Nodup→okN ops n fz l listed=true→Sep ops l→(fz=true→Specs P ops mk l a∧base≤w.heap.size∧∀n,S n→n<w.heap.size)→T w→
  wpN P ops Q T base mk S fz l a w→Qhx P ops Q T n listed a w
 | 0,S,fz,l,listed,a,w,hn,_,hB,_,_,_,h=>by
   obtain rfl:l=[]:=QC0 hn
   unfold okN at hB
   exact⟨by simpa using hB,h⟩
 | n+1,S,fz,[],_,_,_,hn,_,_,_,_,_,_=>by simp at hn
 | n+1,S,fz,(i,kd) :: r,listed,a,w,hn,hnd,hB,hsep,hfzz,hTw,h=>by
   have hr':r.length=n:=by simpa using hn
   have hnd':=hnd
   simp only[QCR,QEf]at hnd'
   have ih:=fun S fz l listed a w=>simN (base:=base) (mk:=mk) hsel hT hQ1 n S fz l listed a w
   have hsub:∀x,x∈r→x∈(i,kd) :: r:=fun x hx=>QEg _ hx
   have hspr:fz=true→Specs P ops mk r a:=fun hf k ok hk hok=>(hfzz hf).1 k ok (hsub _ hk) hok
   unfold okN at hB
   simp only at hB
   by_cases h0:kd=0
   ·subst h0
    simp only[if_true,QCG]at hB
    obtain⟨⟨⟨⟨hfz,hrd⟩,hf⟩,hcm⟩,hok⟩:=hB
    subst hfz
    obtain⟨o,ho,h⟩:=h
    have hri:i∈Region.ready .any ops listed:=by simpa using hrd
    have hcm':calm o=true:=by simpa [ho] using hcm
    have next:∀v,YieldsIf P ops T o v a→wpN P ops Q T base mk S true r (a.put o.dst v) w→Qhx P ops Q T (n+1) listed a w:=fun v hy hnx=>
     Qhn ho hsel (fun c a w=>hQ1 c a _ _ w) n listed a w (Region.free_spec ho hf) hri hy hTw
      (ih S true r _ _ w hr' hnd'.2 hok (hsep.sub hsub) (fun _=>⟨Specs.put (l:=(i,0) :: r) (hspr rfl) hsub hsep List.mem_cons_self ho hnd'.1 hsel v,(hfzz rfl).2⟩) hTw hnx)
    by_cases hw:Region.wanted o (yielded ops a.tmps)=true
    ·rw[if_pos hw]at h
     obtain⟨v,hy,hnx⟩:=Qcn hcm' hw h
     exact next v hy hnx
    ·rw[if_neg hw]at h
     exact next undef (.inr ⟨by simpa using hw,rfl⟩) h
   ·rw[if_neg h0]at hB
    by_cases h2:kd=2
    ·subst h2
     simp only[if_true,QCG,QDE]at hB
     obtain⟨⟨hfz,hne⟩,hall⟩:=hB
     subst hfz
     refine⟨fun he=>(by rw[he]at hne;simp at hne),fun j hj=>?_⟩
     have hj2:=QDa.1 hall j hj
     simp only[QCG]at hj2
     obtain⟨hsp,hb,hSb⟩:=hfzz rfl
     obtain⟨oj,hoj,hah⟩:=QuU hj2.1
     have hmem:=Qg5 (Qfu hah)
     obtain⟨hw,hrun⟩:=hsp j oj hmem hoj
     have hlen:=Qel (Qfu hah)
     have hst:=QeE (i:=j) hnd
     unfold wpOp
     simp only[hoj,hw,if_true]
     refine .inl ?_
     unfold Oper.wp
     rw[hrun w]
     refine⟨hT _ _ hTw (QcP w _),ih (fun n=>n=w.heap.size∨S n) true _ _ _ _ (by rw[QDj]at hlen;omega) hst.1 hj2.2 (hsep.sub (Qcu j _)) (fun _=>⟨?_,QC4 hb (QcP w _).below.size,fun n hn=>by
      have hsz:(w.alloc (mk j).2).heap.size=w.heap.size+1:=by simp
      rw[hsz]
      rcases hn with rfl|hn
      ·omega
      ·have:=hSb n hn
       omega⟩) (hT _ _ hTw (QcP w _)) ?_⟩
     ·exact Specs.put (l:=(i,2) :: r) (fun k ok hk hok'=>hsp k ok (Qcu j _ _ hk) hok') (Qcu j _) hsep hmem hoj hst.2 hsel _
     ·exact Qsf hoj hsel hb _ S a w _ hah (fun hx=>Nat.lt_irrefl _ (hSb _ hx)) h ⟨hw,hrun⟩ (QcP w _) (heap_alloc_new w _)
    ·rw[if_neg h2]at hB
     simp only[QCG,decide_eq_true_eq]at hB
     obtain⟨⟨hrd,h3⟩,hok⟩:=hB
     subst h3
     refine⟨fun he=>(by rw[hrd]at he;cases he),fun j hj=>?_⟩
     rw[hrd]at hj
     obtain rfl:j=i:=by simpa using hj
     have hri:j∈Region.ready .any ops listed:=by rw[hrd];simp
     have h':wpOp P ops Q j (fun a' w'=>T w'∧wpN P ops Q T base mk S false r a' w') a w:=by
      cases fz with
      | true=>exact h w (Later.refl w)
      | false=>exact h
     exact wpOp_mono (fun a' w' h'=>⟨h'.1,ih S false r _ a' w' hr' hnd'.2 hok (hsep.sub hsub) (fun hf=>by cases hf) h'.1 h'.2⟩) h'
end
section
variable {P:Program} {Q:Exit→Act→World→Prop}
def Qka (P:Program) (l:List Oper) (Q:Exit→Act→World→Prop) (T:World→Prop):List Nat→Act→World→Prop
 | [],a,w=>Q .normal a w
 | i :: r,a,w=>wpList P l.toArray (Exit.then (fun a' w'=>T w'∧Qka P l Q T r a' w') Q) (pick l [i]) a w
def QoX (P:Program) (l:List Oper) (Q:Exit→Act→World→Prop) (T:World→Prop) (base:Nat) (mk:Nat→(Nat→Value)×Obj) (ts:List Nat):(Nat→Prop)→List Nat→Act→World→Prop
 | _,[],a,w=>∀w1,Later w w1→Qka P l Q T ts a w1
 | S,i :: r,a,w=>∀w1 g,Later w w1→base≤g→ ¬S g→w1.heap[g]?=some (mk i).2→QoX P l Q T base mk ts (fun n=>n=g∨S n) r (a.put ((l[i]?).bind (·.dst)) ((mk i).1 g)) w1
theorem QzE {l:List Oper} {T:World→Prop} {base:Nat} {mk:Nat→(Nat→Value)×Obj} {S:Nat→Prop}:∀(ts:List Nat),(ts.all fun i=>decide (i<l.length))=true→
 ∀a w,Qka P l Q T ts a w→wpN P l.toArray Q T base mk S false (ts.map (·,3)) a w
 | [],_,a,w,h=>h
 | i :: ts,hb,a,w,h=>by
   simp only[QDA,QCG,decide_eq_true_eq]at hb
   exact wpOp_mono (fun a' w' h'=>⟨h'.1,QzE ts hb.2 a' w' h'.2⟩) (Qcm hb.1 h)
theorem Qzr {l:List Oper} {T:World→Prop} {base:Nat} {mk:Nat→(Nat→Value)×Obj} {ts:List Nat} (ht:(ts.all fun i=>decide (i<l.length))=true):∀(ms:List Nat),(ms.all fun i=>decide (i<l.length))=true→
 ∀S a w,QoX P l Q T base mk ts S ms a w→wpN P l.toArray Q T base mk S true (ms.map (·,2)++ts.map (·,3)) a w
 | [],_,S,a,w,h=>by
   cases ts with
   | nil=>exact h w (Later.refl w)
   | cons i ts=>
     intro w1 hl
     have:=QzE (P:=P) (Q:=Q) (T:=T) (base:=base) (mk:=mk) (S:=S) (i :: ts) ht a w1 (h w1 hl)
     exact this
 | i :: ms,hb,S,a,w,h=>by
   simp only[QDA,QCG,decide_eq_true_eq]at hb
   have hi:l[i]?=some (l[i]'hb.1):=QCv hb.1
   refine⟨l[i]'hb.1,by simp[hb.1],fun w1 g hl hg hS hh=>?_⟩
   have:=h w1 g hl hg hS hh
   rw[hi]at this
   exact Qzr ht ms hb.2 _ _ w1 this
theorem Qrf {l:List Oper} {T:World→Prop} {base:Nat} {mk:Nat→(Nat→Value)×Obj} {S:Nat→Prop} {Qa:Act→Prop} {r:List (Nat×Nat)} {w:World} (hQa:∀a,Qa a→wpN P l.toArray Q T base mk S true r a w):∀(qs:List Nat),(qs.all fun i=>decide (i<l.length))=true→
 ∀a,wpQuiet P l.toArray T Qa (pick l qs) a→wpN P l.toArray Q T base mk S true (qs.map (·,0)++r) a w
 | [],_,a,h=>hQa a h
 | i :: qs,hb,a,h=>by
   simp only[QDA,QCG,decide_eq_true_eq]at hb
   have hi:l[i]?=some (l[i]'hb.1):=QCv hb.1
   refine⟨l[i]'hb.1,by simp[hb.1],?_⟩
   simp only[pick,hi,QCq,QDW,wpQuiet]at h
   by_cases hw:Region.wanted (l[i]'hb.1) (yielded l.toArray a.tmps)=true
   ·rw[if_pos hw]at h ⊢
    exact Oper.quiet_mono (fun a' h'=>Qrf hQa qs hb.2 a' h') h
   ·rw[if_neg hw]at h ⊢
    exact Qrf hQa qs hb.2 _ h
def QvH (l:List Oper) (qs ms ts:List Nat):Bool:=
 let f:=qs.map (·,0)++(ms.map (·,2)++ts.map (·,3))
 Region.noSelect l.toArray&&(qs.all fun i=>decide (i<l.length))&&(ms.all fun i=>decide (i<l.length))&&(ts.all fun i=>decide (i<l.length)) &&
 okN l.toArray f.length true f (QDL l.length false)&&sepB l f&&decide ((f.map (·.1)).Nodup)&&decide (f.length=l.length)
theorem Qlm {qs ms ts:List Nat} {i:Nat} (h:(i,2)∈qs.map (·,0)++(ms.map (·,2)++ts.map (·,3))):i∈ms:=by
 simp only[QDc,QC7,Prod.mk.injEq]at h
 rcases h with ⟨x,_,_,h⟩|⟨x,hx,rfl,_⟩|⟨x,_,_,h⟩
 ·omega
 ·exact hx
 ·omega
theorem QhV {id:Nat} {a:Act} {w:World} {l:List Oper} (qs ms ts:List Nat) (mk:Nat→(Nat→Value)×Obj) (hm:P.follows .mixedOrders=true) (hB:QvH l qs ms ts=true)
 (hQ1:∀c a d v w,Q (.panic c) (a.put d v) w→Q (.panic c) a w)
 (h:MakesAll P l mk a ms∧wpQuiet P l.toArray (Below w.heap.size w) (fun a'=>QoX P l Q (Below w.heap.size w) w.heap.size mk ts (fun _=>False) ms a' w.drew) (pick l qs) a):(Code.region id l.toArray true).wp P Q a w:=by
 simp only[QvH,QCG,decide_eq_true_eq]at hB
 obtain⟨⟨⟨⟨⟨⟨⟨hs,hq⟩,hms⟩,ht⟩,hok⟩,hsep⟩,hnd⟩,hlen⟩:=hB
 refine wp_region_any hm (Qg8 (T:=Below w.heap.size w) _ _ _ _ ?_)
 have hTl:∀w1 w2,Below w.heap.size w w1→Later w1 w2→Below w.heap.size w w2:=fun w1 w2 h1 h2=>h1.trans (h2.below.mono h1.size)
 have h0:Below w.heap.size w w.drew:=(Below.refl _ _).drew
 have:=simN (P:=P) (Q:=Q) (T:=Below w.heap.size w) (base:=w.heap.size) (mk:=mk) (Region.noSelect_spec hs) hTl hQ1 _ (fun _=>False) true _ (QDL l.length false) a w.drew rfl hnd hok (Qlr hsep)
  (fun _=>⟨fun i oi hi ho=>h.1.at_ i (Qlm hi) oi (by simpa using ho),QCx _,fun _ h=>h.elim⟩) h0 (Qrf (fun a h=>Qzr ht ms hms _ a w.drew h) qs hq a h.2)
 rw[hlen]at this
 simpa using this
end
section
variable {P:Program} {ops:Array Oper} {Q:Exit→Act→World→Prop} {w0:World}
def QjS (ops:Array Oper) (ex ts:List Nat):Bool:=
 match ts with
 | []=>true
 | t :: r=>
   ((QC5 ops.size).all fun i=>ts.contains i||ex.contains i||(QC5 ops.size).any fun j=>(j==t||(!ts.contains j&& !ex.contains j&&decide (i<j)))&&Qhy ops j i) &&
   (List.zip (t :: r) r).all fun (p,q)=>Qhy ops q p
theorem QiL {ex:List Nat} {t:Nat} {r:List Nat} (hB:QjS ops ex (t :: r)=true) {listed:Array Bool} (hc:Closed ops listed):
 ∀(d i:Nat),ops.size-i=d→i<ops.size→(t :: r).contains i=false→ex.contains i=false→listed.getD i true=false→listed.getD t false=false∧t∉Region.ready .any ops listed:=by
 intro d
 induction d using Nat.strongRecOn with
 | _ d ih=>
   intro i hd hi hti hex hun
   simp only[QjS,QCG]at hB
   have h1:=QDa.1 hB.1 i (QDC.2 hi)
   rw[hti,hex,QEC,QEC]at h1
   obtain⟨j,hj,hj2⟩:=QEq.1 h1
   simp only[QCG,QEe,beq_iff_eq,decide_eq_true_eq,QDE]at hj2
   obtain⟨hjt,hw⟩:=hj2
   obtain⟨oj,hoj,e,he,hb,hon⟩:=Qfz hw
   have hjl:listed.getD j false=false:=by
    cases hl:listed.getD j false with
    | false=>rfl
    | true=>
      have h2:=hc.2 j oj hoj hl e he hb
      rw[hon,QbV hun]at h2
      cases h2
   rcases hjt with hjt|⟨⟨hjt,hje⟩,hij⟩
   ·subst hjt
    refine⟨hjl,fun hr=>?_⟩
    obtain⟨_,o',ho',hall⟩:=mem_ready.1 hr
    have:o'=oj:=Option.some.inj (ho'.symm.trans hoj)
    subst this
    have h2:=hall e he hb
    rw[hon,QbV hun]at h2
    cases h2
   ·have hjs:j<ops.size:=QDC.1 hj
    exact ih (ops.size-j) (by omega) j rfl hjs hjt hje (Qhu (by rw[hc.1];exact hjs) hjl)
theorem Qvl {ex ts:List Nat} (hT:QjS ops ex ts=true) {i:Nat} (hti:ts.contains i=false) (hex:ex.contains i=false) {listed:Array Bool} (hcl:Closed ops listed) (hr:i∈Region.ready .any ops listed)
 {j:Nat} (hj:j∈Region.ready .any ops listed):ts.contains j=false:=by
 obtain⟨hiun,oi,hi,_⟩:=mem_ready.1 hr
 cases htj:ts.contains j with
 | false=>rfl
 | true=>
   cases ts with
   | nil=>simp at htj
   | cons t r=>
     have hin:i<ops.size:=(Array.getElem?_eq_some_iff.1 hi).1
     obtain⟨h3,h4⟩:=QiL hT hcl _ i rfl hin hti hex hiun
     simp only[QjS,QCG]at hT
     exact absurd hj (QdR hcl r t hT.2 h3 h4 j (by simpa using htj))
def SE (ex:List Nat) (i:Nat) (w:World):World→Prop:=if ex.contains i then fun _=>True else Later w
def QfR (P:Program) (ops:Array Oper) (Q:Exit→Act→World→Prop) (ex:List Nat) (tl:Nat→Bool):List (Nat×Bool)→Act→World→Prop
 | [],a,w=>Q .normal a w
 | (i,true) :: r,a,w=>∃o,ops[i]?=some o∧if Region.wanted o (yielded ops a.tmps) then o.quiet P a (SE ex i w) (fun a'=>QfR P ops Q ex tl r a' w) else QfR P ops Q ex tl r (a.put o.dst undef) w
 | (i,false) :: r,a,w=>wpOp P ops Q i (fun a' w'=>(tl i=false→Later w w')∧QfR P ops Q ex tl r a' w') a w
theorem Qej {ex ts:List Nat} (hT:QjS ops ex ts=true) (hs:Region.noSelect ops=true) (hQ:∀c a d v w,Q (.panic c) (a.put d v) w→Q (.panic c) a w):
 ∀(l:List (Nat×Bool)) (listed:Array Bool) (a:Act) (w:World),Closed ops listed→seqB ops ts.contains l listed=true→
  QfR P ops Q ex ts.contains l a w→Qdw P ops Q ts.contains l.length listed a w
 | [],_,_,_,_,hB,h=>⟨by simpa [seqB] using hB,h⟩
 | (i,true) :: r,listed,a,w,hcl,hB,h=>by
   simp only[seqB,QCG]at hB
   obtain⟨⟨⟨⟨hr,hf⟩,hcm⟩,htl⟩,hB'⟩:=hB
   obtain⟨o,ho,h⟩:=h
   have hr':i∈Region.ready .any ops listed:=by simpa using hr
   have hcm':calm o=true:=by simpa [ho] using hcm
   have htl':ts.contains i=false:=by simpa using htl
   have next:∀v,YieldsIf P ops (SE ex i w) o v a→QfR P ops Q ex ts.contains r (a.put o.dst v) w→Qdw P ops Q ts.contains (r.length+1) listed a w:=fun v hy hn=>by
    have hn':=Qej hT hs hQ r _ _ w (hcl.set hr') hB' hn
    unfold SE at hy
    cases hex:ex.contains i with
    | true=>
      rw[hex]at hy
      exact Qec (S:=fun _=>True) ho (Region.noSelect_spec hs) (fun c a w=>hQ c a _ _ w) (fun _ _ _ _ _ _ _ _ _ _=>trivial) _ listed a w hcl (Region.free_spec ho hf) hr' hy trivial hn'
    | false=>
      rw[hex]at hy
      exact Qec (S:=Later w) ho (Region.noSelect_spec hs) (fun c a w=>hQ c a _ _ w) (fun listed j w w' hcl hr hj _ h hS=>hS.trans (h (Qvl hT htl' hex hcl hr hj))) _ listed a w hcl (Region.free_spec ho hf) hr' hy (Later.refl _) hn'
   by_cases hw:Region.wanted o (yielded ops a.tmps)=true
   ·rw[if_pos hw]at h
    obtain⟨v,hy,hn⟩:=Qcn hcm' hw h
    exact next v hy hn
   ·rw[if_neg hw]at h
    exact next undef (.inr ⟨by simpa using hw,rfl⟩) h
 | (i,false) :: r,listed,a,w,hcl,hB,h=>by
   simp only[seqB,QCG,decide_eq_true_eq]at hB
   obtain⟨hr,hB'⟩:=hB
   refine⟨fun h0=>(by rw[hr]at h0;cases h0),fun j hj=>?_⟩
   rw[hr]at hj
   obtain rfl:j=i:=by simpa using hj
   exact wpOp_mono (fun a' w' h3=>⟨h3.1,Qej hT hs hQ r _ a' w' (hcl.set (by rw[hr];simp)) hB' h3.2⟩) h
theorem QcB {l:List Oper} {ex:List Nat} {S:World→Prop} {Qa:Act→Prop} {r:List (Nat×Bool)} {tl:Nat→Bool} {w:World} (hQa:∀a,Qa a→QfR P l.toArray Q ex tl r a w):∀(qs:List Nat),(qs.all fun i=>decide (i<l.length))=true→(∀ i∈qs,SE ex i w=S)→
 ∀a,wpQuiet P l.toArray S Qa (pick l qs) a→QfR P l.toArray Q ex tl (qs.map (·,true)++r) a w
 | [],_,_,a,h=>hQa a h
 | i :: qs,hb,hS,a,h=>by
   simp only[QDA,QCG,decide_eq_true_eq]at hb
   have hi:l[i]?=some (l[i]'hb.1):=QCv hb.1
   have hS':∀j∈qs,SE ex j w=S:=fun j hj=>hS j (QEg _ hj)
   refine⟨l[i]'hb.1,by simp[hb.1],?_⟩
   simp only[pick,hi,QCq,QDW,wpQuiet]at h
   rw[hS i (by simp)]
   by_cases hw:Region.wanted (l[i]'hb.1) (yielded l.toArray a.tmps)=true
   ·rw[if_pos hw]at h ⊢
    exact Oper.quiet_mono (fun a' h'=>QcB hQa qs hb.2 hS' a' h') h
   ·rw[if_neg hw]at h ⊢
    exact QcB hQa qs hb.2 hS' _ h
theorem Ql3 {l:List Oper} {ex:List Nat} {tl:Nat→Bool}:∀(ts:List Nat),(ts.all fun i=>decide (i<l.length)&&tl i)=true→∀a w,wpList P l.toArray Q (pick l ts) a w→QfR P l.toArray Q ex tl (ts.map (·,false)) a w:=by
 intro ts ht a w h
 have:∀(s:List (Nat×Bool)),(∀ p∈s,p.2=false)→∀a w,QiD P l.toArray Q tl s a w→QfR P l.toArray Q ex tl s a w:=by
  intro s
  induction s with
  | nil=>intro _ a w h;exact h
  | cons p s ih=>
    obtain⟨i,b⟩:=p
    intro hp a w h
    have hb:b=false:=hp (i,b) (List.mem_cons_self)
    subst hb
    exact wpOp_mono (fun a' w' h'=>⟨h'.1,ih (fun q hq=>hp q (QEg _ hq)) a' w' h'.2⟩) h
 exact this _ (fun p hp=>by obtain⟨i,_,rfl⟩:=QC7.1 hp;rfl) a w (Qgc ts ht a w h)
def QgJ (P:Program) (l:List Oper) (Q:Exit→Act→World→Prop) (ps qs ts:List Nat):List (List Nat×List Nat×Nat)→Act→World→Prop
 | [],a,w=>wpQuiet P l.toArray (fun _=>True) (wpQuiet P l.toArray (fun w'=>∃x,w'=grow w x) (fun a'=>wpList P l.toArray Q (pick l ts) a' w) (pick l qs)) (pick l ps) a
 | (p,q,i) :: r,a,w=>wpQuiet P l.toArray (fun _=>True) (wpQuiet P l.toArray (fun w'=>∃x,w'=grow w x) (fun a'=>wpList P l.toArray (Exit.then (fun a'' w''=>Later w w''∧QgJ P l Q ps qs ts r a'' w'') Q) (pick l [i]) a' w) (pick l q)) (pick l p) a
def QrN (ps qs ts:List Nat):List (List Nat×List Nat×Nat)→List (Nat×Bool)
 | []=>ps.map (·,true)++(qs.map (·,true)++ts.map (·,false))
 | (p,q,i) :: r=>p.map (·,true)++(q.map (·,true)++(i,false) :: QrN ps qs ts r)
def exOf (ps:List Nat) (segs:List (List Nat×List Nat×Nat)):List Nat:=ps++segs.flatMap (·.1)
def QgZ (l:List Oper) (ex q:List Nat):Bool:=q.all fun i=>decide (i<l.length)&& !ex.contains i
def QjB (l:List Oper) (ex p:List Nat):Bool:=p.all fun i=>decide (i<l.length)&&ex.contains i
def Qs4 (l:List Oper) (ps qs ts:List Nat) (segs:List (List Nat×List Nat×Nat)):Bool:=
 Region.noSelect l.toArray&&QjS l.toArray (exOf ps segs) ts&&(QjB l (exOf ps segs) ps&&QgZ l (exOf ps segs) qs)&&(ts.all fun i=>decide (i<l.length)&&ts.contains i) &&
 (segs.all fun s=>decide (s.2.2<l.length)&&(QjB l (exOf ps segs) s.1&&QgZ l (exOf ps segs) s.2.1)) &&
 seqB l.toArray ts.contains (QrN ps qs ts segs) (QDL l.length false)&&decide ((QrN ps qs ts segs).length=l.length)
theorem QeI {l:List Oper} {ex p:List Nat} (h:QjB l ex p=true) (w:World):(p.all fun i=>decide (i<l.length))=true∧∀i∈p,SE ex i w=fun _=>True:=by
 unfold QjB at h
 refine⟨QDa.2 fun i hi=>?_,fun i hi=>?_⟩
 all_goals
  have:=QDa.1 h i hi
  simp only[QCG]at this
 ·exact this.1
 ·unfold SE
  rw[if_pos this.2]
theorem Qd1 {l:List Oper} {ex q:List Nat} (h:QgZ l ex q=true) (w:World):(q.all fun i=>decide (i<l.length))=true∧∀i∈q,SE ex i w=Later w:=by
 unfold QgZ at h
 refine⟨QDa.2 fun i hi=>?_,fun i hi=>?_⟩
 all_goals
  have:=QDa.1 h i hi
  simp only[QCG,QDE]at this
 ·exact this.1
 ·unfold SE
  rw[if_neg (by rw[this.2];simp)]
theorem QgK {l:List Oper} {ex ps qs ts:List Nat} (hp:QjB l ex ps=true) (hq:QgZ l ex qs=true) (ht:(ts.all fun i=>decide (i<l.length)&&ts.contains i)=true):
 ∀(segs:List (List Nat×List Nat×Nat)),(segs.all fun s=>decide (s.2.2<l.length)&&(QjB l ex s.1&&QgZ l ex s.2.1))=true→∀a w,QgJ P l Q ps qs ts segs a w→QfR P l.toArray Q ex ts.contains (QrN ps qs ts segs) a w
 | [],_,a,w,h=>QcB (fun a h=>QcB (fun a h=>Ql3 ts ht a w h) qs (Qd1 hq w).1 (Qd1 hq w).2 a h) ps (QeI hp w).1 (QeI hp w).2 a h
 | (p,q,i) :: r,hb,a,w,h=>by
   simp only[QDA,QCG,decide_eq_true_eq]at hb
   obtain⟨⟨hi,hp1,hq1⟩,hb2⟩:=hb
   refine QcB (fun a h=>QcB (fun a h=>?_) q (Qd1 hq1 w).1 (Qd1 hq1 w).2 a h) p (QeI hp1 w).1 (QeI hp1 w).2 a h
   exact wpOp_mono (fun a' w' h'=>⟨fun _=>h'.1,QgK hp hq ht r hb2 a' w' h'.2⟩) (Qcm hi h)
theorem QhD {id:Nat} {a:Act} {w:World} {l:List Oper} (segs:List (List Nat×List Nat×Nat)) (ps qs ts:List Nat) (hm:P.follows .mixedOrders=true) (hB:Qs4 l ps qs ts segs=true)
 (hQ:∀c a d v w,Q (.panic c) (a.put d v) w→Q (.panic c) a w) (h:QgJ P l Q ps qs ts segs a w.drew):(Code.region id l.toArray true).wp P Q a w:=by
 simp only[Qs4,QCG,decide_eq_true_eq]at hB
 obtain⟨⟨⟨⟨⟨⟨hs,hT⟩,hp,hq⟩,ht⟩,hsg⟩,hsq⟩,hlen⟩:=hB
 refine wp_region_any hm (Qfy (tl:=ts.contains) _ _ _ _ ?_)
 have:=Qej hT hs hQ (QrN ps qs ts segs) (QDL l.length false) a w.drew (Qe0 l) hsq (QgK hp hq ht segs hsg a _ h)
 rw[hlen]at this
 simpa using this
end
section
variable {P:Program} {ops:Array Oper} {Q:Exit→Act→World→Prop} {Rel:Nat→World→World→Prop}
def QjM (P:Program) (ops:Array Oper) (Q:Exit→Act→World→Prop) (Rel:Nat→World→World→Prop):Nat→Array Bool→Act→World→Prop
 | 0,listed,a,w=>Region.ready .any ops listed=[]∧Q .normal a w
 | fuel+1,listed,a,w=>
   (Region.ready .any ops listed=[]→Q .normal a w)∧
   ∀i∈Region.ready .any ops listed,wpOp P ops Q i (fun a' w'=>Rel i w w'∧QjM P ops Q Rel fuel (listed.setIfInBounds i true) a' w') a w
theorem QjH:∀(fuel:Nat) (listed:Array Bool) (a:Act) (w:World),QjM P ops Q Rel fuel listed a w→wpAny P .any ops Q fuel listed a w
 | 0,_,_,_,h=>h
 | fuel+1,_,_,_,h=>⟨h.1,fun i hi=>wpOp_mono (fun a' w' h'=>QjH fuel _ a' w' h'.2) (h.2 i hi)⟩
theorem Qmj {S:World→Prop} {i:Nat} {oi:Oper} {v:Value} (hi:ops[i]?=some oi) (hsel:∀(j:Nat) (o:Oper) cs b,ops[j]?=some o→o.op≠ .select cs b)
 (hQ:∀c a w,Q (.panic c) (a.put oi.dst v) w→Q (.panic c) a w) (hRi:∀w,Rel i w w)
 (hSt:∀(listed:Array Bool) (j:Nat) (w w':World),i∈Region.ready .any ops listed→j∈Region.ready .any ops listed→j≠i→Rel j w w'→S w→S w'):
 ∀(fuel:Nat) (listed:Array Bool) (a:Act) (w:World),
  (∀ j oj,ops[j]?=some oj→j≠i→listed.getD j true=false→(∀ e∈oj.after,Region.binds .any e=true→e.on≠i)→oi.apart ops oj=true)→
  i∈Region.ready .any ops listed→YieldsIf P ops S oi v a→S w→
  QjM P ops Q Rel fuel (listed.setIfInBounds i true) (a.put oi.dst v) w→QjM P ops Q Rel (fuel+1) listed a w:=by
 intro fuel
 induction fuel with
 | zero=>
   intro listed a w _ hr hy hS H
   refine⟨fun h=>(by rw[h]at hr;cases hr),fun j hj=>?_⟩
   by_cases hji:j=i
   ·subst hji;exact hy.wpOp hi hS ⟨hRi w,H⟩
   ·have:=ready_mono hj hji
    rw[H.1]at this
    cases this
 | succ fuel ih=>
   intro listed a w hfree hr hy hS H
   refine⟨fun h=>(by rw[h]at hr;cases hr),fun j hj=>?_⟩
   by_cases hji:j=i
   ·subst hji;exact hy.wpOp hi hS ⟨hRi w,H⟩
   ·have h1:=H.2 j (ready_mono hj hji)
    obtain⟨hjun,oj,hoj,hall⟩:=mem_ready.1 hj
    have hiun:=(mem_ready.1 hr).1
    have hnot:∀e∈oj.after,Region.binds .any e=true→e.on≠i:=fun e he hb heq=>by
     have h1:=hall e he hb
     rw[heq,QbV hiun]at h1
     cases h1
    have h2:=wpOp_putIf hoj (hfree j oj hoj hji hjun hnot) (fun cs b=>hsel i oi cs b hi) (fun cs b=>hsel j oj cs b hoj) hQ hy h1
    have hfree':∀k ok,ops[k]?=some ok→k≠i→(listed.setIfInBounds j true).getD k true=false→
     (∀ e∈ok.after,Region.binds .any e=true→e.on≠i)→oi.apart ops ok=true:=fun k ok hk hki hun hno=>by
     refine hfree k ok hk hki ?_ hno
     by_cases hjk:j=k
     ·subst hjk;exact hjun
     ·rw[getD_set_ne true hjk]at hun;exact hun
    refine wpOp_mono (fun a' w' h3=>⟨h3.2.1,ih (listed.setIfInBounds j true) a' w' hfree' (ready_mono hr (Ne.symm hji)) h3.1 (hSt listed j w w' hr hj hji h3.2.1 hS) ?_⟩) h2
    rw[Array.setIfInBounds_comm _ _ hji]
    exact h3.2.2
end
def Spared (w:World) (bad:List Nat) (w':World):Prop:=w.heap.size≤w'.heap.size∧∀b,b<w.heap.size→(∀ g∈bad,b≠g)→w'.heap[b]?=w.heap[b]?
theorem Spared.refl (w:World) (bad:List Nat):Spared w bad w.drew:=⟨QCx _,fun _ _ _=>rfl⟩
theorem Spared.only {w w1 w2:World} {bad:List Nat} {g:Nat} (h:Spared w bad w1) (ho:Only g w1 w2) (hg:g∈bad):Spared w bad w2:=
 ⟨QC4 h.1 ho.size,fun b hb hn=>(ho.block b (QCM hb h.1) (fun e=>hn g hg (by injection e))).trans (h.2 b hb hn)⟩
theorem Spared.blk {w w':World} {bad:List Nat} {g:Nat} {t:TypeId} {l:List Value} (h:Spared w bad w') (hb:Blk w g t l) (hn:∀b∈bad,g≠b):Blk w' g t l:=(h.2 g hb.lt hn).trans hb
section
variable {P:Program} {Q:Exit→Act→World→Prop}
def Qge (P:Program) (l:List Oper) (Q:Exit→Act→World→Prop) (g:Nat→Nat):List Nat→Act→World→Prop
 | [],a,w=>Q .normal a w
 | i :: r,a,w=>wpList P l.toArray (Exit.then (fun a' w'=>Only (g i) w w'∧Qge P l Q g r a' w') Q) (pick l [i]) a w
def Qiw (P:Program) (l:List Oper) (Q:Exit→Act→World→Prop) (w0:World) (g:Nat→Nat) (ahead:Nat→List Nat) (ts:List Nat):List Nat→Act→Prop
 | [],a=>Qge P l Q g ts a w0.drew
 | i :: r,a=>∃o,l[i]?=some o∧Region.wanted o (yielded l.toArray a.tmps)=true∧o.quiet P a (Spared w0 ((ahead i).map g)) (fun a'=>Qiw P l Q w0 g ahead ts r a')
def okLt (ops:Array Oper):List Nat→Array Bool→Bool
 | i :: r,listed=>decide (Region.ready .any ops listed=[i])&&okLt ops r (listed.setIfInBounds i true)
 | [],listed=>(Region.ready .any ops listed).isEmpty
def okL (ops:Array Oper) (ts:List Nat):List Nat→Array Bool→Bool
 | i :: r,listed=>(Region.ready .any ops listed).contains i&&Region.free .any ops listed i&&((ops[i]?).map calm).getD false&&okL ops ts r (listed.setIfInBounds i true)
 | [],listed=>okLt ops ts listed
def QzO (l:List Oper) (qs ts:List Nat) (ahead:Nat→List Nat):Bool:=
 Region.noSelect l.toArray&&(qs.all fun i=>decide (i<l.length)&&ts.all fun j=>Qhy l.toArray j i||(ahead i).contains j)&&(ts.all fun i=>decide (i<l.length)&& !qs.contains i) &&
 ((QC5 l.length).all fun i=>qs.contains i||ts.contains i)&&okL l.toArray ts qs (QDL l.length false)&&decide (qs.length+ts.length=l.length)
theorem QlI {l:List Oper} {g:Nat→Nat} {qs0:List Nat}:∀(ts:List Nat),(ts.all fun i=>decide (i<l.length)&& !qs0.contains i)=true→∀(listed:Array Bool) (a:Act) (w:World),okLt l.toArray ts listed=true→Qge P l Q g ts a w→
 QjM P l.toArray Q (fun j w w'=>if qs0.contains j then w'=w else Only (g j) w w') ts.length listed a w
 | [],_,listed,a,w,hB,h=>by
   unfold okLt at hB
   exact⟨by simpa using hB,h⟩
 | i :: r,hb,listed,a,w,hB,h=>by
   simp only[QDA,QCG,decide_eq_true_eq,QDE]at hb
   unfold okLt at hB
   simp only[QCG,decide_eq_true_eq]at hB
   refine⟨fun he=>(by rw[hB.1]at he;cases he),fun j hj=>?_⟩
   rw[hB.1]at hj
   obtain rfl:j=i:=by simpa using hj
   refine wpOp_mono (fun a' w' h'=>⟨?_,QlI r (by simpa using hb.2) _ a' w' hB.2 h'.2⟩) (Qcm hb.1.1 h)
   simp only[hb.1.2]
   exact h'.1
theorem Qju {l:List Oper} {g:Nat→Nat} {ahead:Nat→List Nat} {qs0 ts:List Nat} {w0:World} (hs:Region.noSelect l.toArray=true) (hQ1:∀c a d v w,Q (.panic c) (a.put d v) w→Q (.panic c) a w)
 (ht:(ts.all fun i=>decide (i<l.length)&& !qs0.contains i)=true) (hall:((QC5 l.length).all fun i=>qs0.contains i||ts.contains i)=true)
 (hq:∀i∈qs0,i<l.length∧∀j∈ts,Qhy l.toArray j i=true∨j∈ahead i):
 ∀(qs:List Nat),(∀ i∈qs,i∈qs0)→∀(listed:Array Bool) (a:Act),okL l.toArray ts qs listed=true→Qiw P l Q w0 g ahead ts qs a→
  QjM P l.toArray Q (fun j w w'=>if qs0.contains j then w'=w else Only (g j) w w') (qs.length+ts.length) listed a w0.drew
 | [],_,listed,a,hB,h=>by
   rw[List.length_nil,QCI]
   exact QlI ts ht listed a _ hB h
 | i :: r,hsub,listed,a,hB,h=>by
   unfold okL at hB
   simp only[QCG]at hB
   obtain⟨⟨⟨hrd,hf⟩,hcm⟩,hok⟩:=hB
   obtain⟨o,ho,hw,hquiet⟩:=h
   have ho':l.toArray[i]?=some o:=by simpa using ho
   have hri:i∈Region.ready .any l.toArray listed:=by simpa using hrd
   have hcm':calm o=true:=by simpa [ho] using hcm
   have hi0:=hsub i (by simp)
   obtain⟨v,hy,hn⟩:=Qcn hcm' hw hquiet
   have e:(i :: r).length+ts.length=(r.length+ts.length)+1:=by simp;omega
   rw[e]
   refine Qmj (S:=Spared w0 ((ahead i).map g)) ho' (Region.noSelect_spec hs) (fun c a w=>hQ1 c a _ _ w) (fun w=>?_) ?_ _ listed a w0.drew (Region.free_spec ho' hf) hri hy (Spared.refl _ _)
    (Qju hs hQ1 ht hall hq r (fun k hk=>hsub k (by simp[hk])) _ _ hok hn)
   ·simp[hi0]
   ·intro listed' j w w' hir hjr hji hrel hS
    by_cases hj:qs0.contains j=true
    ·rw[if_pos hj]at hrel
     subst hrel
     exact hS
    ·rw[if_neg hj]at hrel
     obtain⟨_,oj,hoj,hwt⟩:=mem_ready.1 hjr
     have hjl:j<l.length:=by simpa using (Array.getElem?_eq_some_iff.1 hoj).1
     have hjt:j∈ts:=by
      have:=QDa.1 hall j (QDC.2 hjl)
      simp only[QEe]at this
      rcases this with h1|h1
      ·exact absurd h1 hj
      ·simpa using h1
     refine hS.only hrel ?_
     rcases (hq i hi0).2 j hjt with h1|h1
     ·obtain⟨ok,hok',e,he,hb,hon⟩:=Qfz h1
      have:ok=oj:=Option.some.inj (hok'.symm.trans hoj)
      subst this
      have h2:=hwt e he hb
      have h3:=(mem_ready.1 hir).1
      rw[hon,QbV h3]at h2
      cases h2
     ·exact QC7.2 ⟨j,h1,rfl⟩
theorem Qdd {id:Nat} {a:Act} {w:World} {l:List Oper} (qs ts:List Nat) (ahead:Nat→List Nat) (g:Nat→Nat) (hm:P.follows .mixedOrders=true) (hB:QzO l qs ts ahead=true)
 (hQ1:∀c a d v w,Q (.panic c) (a.put d v) w→Q (.panic c) a w) (h:Qiw P l Q w g ahead ts qs a):(Code.region id l.toArray true).wp P Q a w:=by
 simp only[QzO,QCG,decide_eq_true_eq]at hB
 obtain⟨⟨⟨⟨⟨hs,hq⟩,ht⟩,hall⟩,hok⟩,hlen⟩:=hB
 refine wp_region_any hm (QjH (Rel:=fun j w w'=>if qs.contains j then w'=w else Only (g j) w w') _ _ _ _ ?_)
 have:=Qju (P:=P) (Q:=Q) (g:=g) (ahead:=ahead) (qs0:=qs) (ts:=ts) (w0:=w) hs hQ1 ht hall (fun i hi=>by
  have h1:=QDa.1 hq i hi
  simp only[QCG,decide_eq_true_eq]at h1
  refine⟨h1.1,fun j hj=>?_⟩
  have h2:=QDa.1 h1.2 j hj
  simpa using h2) qs (fun _ h=>h) (QDL l.length false) a hok h
 rw[hlen]at this
 simpa using this
end
end Go.Proofs.YtdkpcdgckgaklaaGreat
namespace Go.Proofs.YtdkpcdgckgaklaaGreat
open Go.BigFrame
open Go.RowKit
section
variable {P:Program} {ops:Array Oper} {Q:Exit→Act→World→Prop}
inductive Anc (ops:Array Oper):Nat→Nat→Prop
 | one {t i:Nat}:Qhy ops t i=true→Anc ops t i
 | step {t j i:Nat}:Qhy ops t j=true→Anc ops j i→Anc ops t i
end
end Go.Proofs.YtdkpcdgckgaklaaGreat
