/-
  Lemmas for the last text of this claim (part 3 of 20).
-/
import Derived.ArgAppend
import Derived.BigQuiet
import Derived.BigRegion
import Derived.ChangeOld
import Derived.Deep.RegionWith
import Derived.DeepKeys4
import Derived.JoinedCond
import Derived.LaidMore
import Derived.Laws.Append
import Derived.Laws.BytesArg
import Derived.Laws.CopyOwn
import Derived.Laws.Externs
import Derived.Laws.IdiomStrings
import Derived.Laws.Tables
import Derived.Lib.AppendStr
import Derived.Lib.AppendZerosOnto
import Derived.Lib.Mul64
import Derived.Lib.SlBytesConst
import Derived.LoopN
import Derived.Maps.OwnSet
import Derived.OpenShut
import Derived.OrdersHeld
import Derived.ProofKit
import Derived.Shelf.Spec.BitsCarry
import Derived.ShutString
import Derived.Test.YticcbmhcgmhohaaGreatProg
import Derived.Test.YticcbmhcgmhohaaGreatRows
import Derived.WalkKit
import Derived.WalkLawsBesides
import Derived.WalkSpells
import Derived.Test.YticcbmhcgmhohaaGreatPA
import Derived.Test.YticcbmhcgmhohaaGreatPB
open Array renaming getElem?_eq_none → QEb, replicate → QEe
open Bool renaming and_eq_true → QC2, not_eq_true' → QEh, or_eq_true → QEH
open List renaming getElem?_eq_getElem → QCJ, mem_cons → QCZ, map_cons → QC9, eq_nil_of_length_eq_zero → QDk, all_eq_true → QDn, length_cons → QDp, mem_map → QDs, range → QDu, all_cons → QDZ, mem_append → QD3, mem_range → QEo, singleton_append → QEt, mem_cons_of_mem → QEy, nodup_cons → QEI, mem_cons_self → QEJ
open Nat renaming le_refl → QCP, lt_of_lt_of_le → QCX, zero_add → QC4, le_trans → QDm, lt_or_ge → QDJ
open Option renaming toList_some → QCG, bind_some → QD1, map_some → QEd, getD_some → QEL
set_option linter.all false
namespace Go.Proofs.YticcbmhcgmhohaaGreat
open Go.RowKit
def Makes (P:Program) (ops:Array Oper) (o:Oper) (v:Nat→Value) (O:Obj) (a:Act):Prop:=
 Region.wanted o (yielded ops a.tmps)=true∧∀w,(execOp a.eval o).run P w= .ok (.value (v w.heap.size)) (w.alloc O)
section
variable {P:Program} {ops:Array Oper} {Q:Exit→Act→World→Prop}
theorem Makes.of_same {o:Oper} {v:Nat→Value} {O:Obj} {a a':Act} (h:Makes P ops o v O a) (he:execOp a'.eval o=execOp a.eval o) (hw:Region.wanted o (yielded ops a'.tmps)=Region.wanted o (yielded ops a.tmps)):Makes P ops o v O a':=by
 unfold Makes at *
 rw[he,hw]
 exact h
theorem QrE {j:Nat} {oi oj:Oper} {v:Nat→Value} {O:Obj} {u:Value} (hj:ops[j]?=some oj) (hap:oi.apart ops oj=true)
 (hsi:∀cs b,oi.op≠ .select cs b) (hsj:∀cs b,oj.op≠ .select cs b) (hQ:∀c a w,Q (.panic c) a w→Q (.panic c) (a.put oi.dst u) w) {K:Act→World→Prop} {a:Act} {w:World}
 (hm:Makes P ops oi v O a) (h:wpOp P ops Q j K a w):
 wpOp P ops Q j (fun a' w'=>∃a0,a'=a0.put oi.dst u∧Makes P ops oi v O a0∧K a0 w') (a.put oi.dst u) w:=by
 obtain⟨h1,h2,h3⟩:=Oper.apart_spec hap
 have keep:∀(a:Act),Makes P ops oi v O a→∀x,Makes P ops oi v O (a.put oj.dst x):=fun a hy x=>
  hy.of_same (execOp_put oi hsi a oj.dst x h3) (wanted_put oi a oj.dst x h3)
 have keepD:∀d,Makes P ops oi v O { a with defers:=d :: a.defers }:=fun d=>hm.of_same rfl rfl
 unfold wpOp at *
 simp only[hj]at *
 rw[wanted_put oj a oi.dst u h1]
 split
 ·rename_i hw
  simp only[hw,if_true]at h
  rcases h with h|⟨hasks,hlets⟩
  case inr=>exact .inr ⟨by unfold Oper.asks at *;rw[execOp_put oj hsj a oi.dst u h1];exact hasks,hlets⟩
  refine .inl ?_
  unfold Oper.wp at *
  rw[execOp_put oj hsj a oi.dst u h1]
  generalize (execOp a.eval oj).run P w=r at *
  cases r with
  | ok n w'=>
    cases n<;>simp only[Oper.upon]at h ⊢
    case value x=>exact⟨_,Act.put_comm a u x h2,keep a hm x,h⟩
    case skip=>exact⟨_,Act.put_comm a u undef h2,keep a hm _,h⟩
    case defer d=>
     refine⟨_,?_,keep _ (keepD d) undef,h⟩
     rw[←Act.put_comm _ u undef h2]
     unfold Act.put
     cases oi.dst<;>cases oj.dst<;>rfl
    case enter f args=>
     refine Calls.mono h fun e w'' he=>?_
     cases e with
     | returned x=>exact⟨_,Act.put_comm a u x h2,keep a hm x,he⟩
     | panicked c=>exact hQ _ _ _ he
     | outgrown=>exact he
    case row row args=>exact Rows.mono h fun x w'' he=>⟨_,Act.put_comm a u x h2,keep a hm x,he⟩
  | halt x w'=>
    cases x<;>simp only[Oper.upon]at h ⊢
    case panic x=>exact hQ _ _ _ h
 ·rename_i hw
  simp only[hw]at h
  exact⟨_,Act.put_comm a u undef h2,keep a hm _,h⟩
def wpM (P:Program) (ops:Array Oper) (Q:Exit→Act→World→Prop) (base:Nat) (mk:Nat→(Nat→Value)×Obj):(Nat→Prop)→Bool→List (Nat×Nat)→Act→World→Prop
 | _,_,[],a,w=>Q .normal a w
 | S,fz,(i,0) :: r,a,w=>∃o,ops[i]?=some o∧if Region.wanted o (yielded ops a.tmps) then o.quiet P a (Later w) (fun a'=>wpM P ops Q base mk S fz r a' w) else wpM P ops Q base mk S fz r (a.put o.dst undef) w
 | S,fz,(i,1) :: r,a,w=>∀w1,Later w w1→wpOp P ops Q i (fun a' w'=>Later w1 w'∧wpM P ops Q base mk S fz r a' w') a w1
 | S,fz,(i,2) :: r,a,w=>∃o,ops[i]?=some o∧∀w1 g,Later w w1→base≤g→ ¬S g→w1.heap[g]?=some (mk i).2→wpM P ops Q base mk (fun n=>n=g∨S n) fz r (a.put o.dst ((mk i).1 g)) w1
 | S,true,(i,_) :: r,a,w=>∀w1,Later w w1→wpOp P ops Q i (fun a' w'=>wpM P ops Q base mk S false r a' w') a w1
 | S,false,(i,_) :: r,a,w=>wpOp P ops Q i (fun a' w'=>wpM P ops Q base mk S false r a' w') a w
theorem QsN (S:Nat→Prop) (g h:Nat):(fun n=>n=g∨(n=h∨S n))=(fun n=>n=h∨(n=g∨S n)):=by
 funext n
 exact propext ⟨fun x=>x.elim (fun e=>.inr (.inl e)) fun y=>y.elim .inl fun z=>.inr (.inr z),fun x=>x.elim (fun e=>.inr (.inl e)) fun y=>y.elim .inl fun z=>.inr (.inr z)⟩
theorem Qo2 {j:Nat} {oj:Oper} (hj:ops[j]?=some oj) {I:Act→Prop} {K:Act→World→Prop} {a:Act} {w:World} (hI:I a) (hput:∀a,I a→∀x,I (a.put oj.dst x)) (hdef:∀a,I a→∀d,I { a with defers:=d :: a.defers })
 (h:wpOp P ops Q j K a w):wpOp P ops Q j (fun a' w'=>I a'∧K a' w') a w:=by
 unfold wpOp at *
 simp only[hj]at *
 split
 ·rename_i hw
  simp only[hw,if_true]at h
  rcases h with h|h
  case inr=>exact .inr h
  refine .inl ?_
  unfold Oper.wp at *
  generalize (execOp a.eval oj).run P w=r at *
  cases r with
  | ok n w'=>
    cases n<;>simp only[Oper.upon]at h ⊢
    case value x=>exact⟨hput a hI x,h⟩
    case skip=>exact⟨hput a hI undef,h⟩
    case defer d=>exact⟨hput _ (hdef a hI d) undef,h⟩
    case enter f args=>
     refine Calls.mono h fun e w'' he=>?_
     cases e with
     | returned x=>exact⟨hput a hI x,he⟩
     | panicked c=>exact he
     | outgrown=>exact he
    case row row args=>exact Rows.mono h fun x w'' he=>⟨hput a hI x,he⟩
  | halt x w'=>
    cases x<;>simp only[Oper.upon]at h ⊢
    case panic x=>exact h
 ·rename_i hw
  simp only[hw]at h
  exact⟨hput a hI undef,h⟩
def Qce (i:Nat):List (Nat×Nat)→List (Nat×Nat)
 | []=>[]
 | (k,kd) :: r=>if k=i then r else (k,kd) :: Qce i r
def QdN (ops:Array Oper) (oi:Oper) (i:Nat):List (Nat×Nat)→Bool
 | []=>false
 | (k,kd) :: r=>if k=i then decide (kd=2) else decide (kd≤2)&&((ops[k]?).map fun ok=>oi.apart ops ok&&(kd != 0||calm ok)).getD false&&QdN ops oi i r
theorem Qwk {base:Nat} {mk:Nat→(Nat→Value)×Obj} {i g:Nat} {oi:Oper} (hi:ops[i]?=some oi) (hsel:∀(j:Nat) (o:Oper) cs b,ops[j]?=some o→o.op≠ .select cs b)
 (hQ:∀c a d v w,Q (.panic c) a w→Q (.panic c) (a.put d v) w) (hb:base≤g):
 ∀(l:List (Nat×Nat)) (S:Nat→Prop) (a:Act) (w w2:World),QdN ops oi i l=true→ ¬S g→wpM P ops Q base mk S true l a w→Makes P ops oi (mk i).1 (mk i).2 a→Later w w2→w2.heap[g]?=some (mk i).2→
  wpM P ops Q base mk (fun n=>n=g∨S n) true (Qce i l) (a.put oi.dst ((mk i).1 g)) w2
 | [],_,_,_,_,hB,_,_,_,_,_=>by simp[QdN]at hB
 | (k,kd) :: r,S,a,w,w2,hB,hSg,h,hm,hl,hg=>by
   unfold QdN at hB
   unfold Qce
   by_cases hk:k=i
   ·subst hk
    rw[if_pos rfl]at hB
    rw[if_pos rfl]
    obtain rfl:kd=2:=by simpa using hB
    obtain⟨o,ho,h⟩:=h
    obtain rfl:o=oi:=Option.some.inj (ho.symm.trans hi)
    exact h w2 g hl hb hSg hg
   ·rw[if_neg hk]at hB
    rw[if_neg hk]
    simp only[QC2,decide_eq_true_eq]at hB
    obtain⟨⟨hkd,hap⟩,hB⟩:=hB
    obtain⟨ok,hok⟩:∃ok,ops[k]?=some ok:=by
     cases hq:ops[k]? with
     | none=>simp[hq]at hap
     | some o=>exact⟨o,rfl⟩
    have hap2:oi.apart ops ok=true∧(kd=0→calm ok=true):=by
     simp only[hok,QEd,QEL,QC2,QEH,bne_iff_ne]at hap
     exact⟨hap.1,fun h=>by rcases hap.2 with h'|h'<;>first|exact absurd h h'|exact h'⟩
    obtain⟨hap',hcalm⟩:=hap2
    obtain⟨h1,h2,h3⟩:=Oper.apart_spec hap'
    have hsi:=fun cs b=>hsel i oi cs b hi
    have hsk:=fun cs b=>hsel k ok cs b hok
    have keep:∀(a:Act),Makes P ops oi (mk i).1 (mk i).2 a→∀x,Makes P ops oi (mk i).1 (mk i).2 (a.put ok.dst x):=fun a hy x=>
     hy.of_same (execOp_put oi hsi a ok.dst x h3) (wanted_put oi a ok.dst x h3)
    have ih:=Qwk (mk:=mk) hi hsel hQ hb r
    match kd,hkd with
    | 0,_=>
      obtain⟨o,ho,h⟩:=h
      obtain rfl:o=ok:=Option.some.inj (ho.symm.trans hok)
      refine⟨o,ho,?_⟩
      rw[wanted_put o a oi.dst _ h1]
      split
      ·rename_i hw
       rw[if_pos hw]at h
       obtain⟨x,hx1,hx2⟩:=h
       refine⟨x,fun w' hw'=>?_,?_⟩
       ·have:=hx1 w' (hl.trans hw')
        unfold Oper.quietAt at *
        rw[execOp_put o hsk a oi.dst _ h1]
        cases hr:(execOp a.eval o).run P w' with
        | halt e w3=>rw[hr]at this;exact absurd this (by simp[Oper.quietUpon])
        | ok n w3=>
          rw[hr]at this
          obtain⟨y,rfl⟩:=Qfn (hcalm rfl) hr
          exact this
       ·rw[Act.put_comm a _ x h2]
        exact ih _ _ w w2 hB hSg hx2 (keep a hm x) hl hg
      ·rename_i hw
       rw[if_neg hw]at h
       rw[Act.put_comm a _ undef h2]
       exact ih _ _ w w2 hB hSg h (keep a hm undef) hl hg
    | 1,_=>
      intro w1 hl1
      refine wpOp_mono (fun a' w' h'=>?_) (QrE hok hap' hsi hsk (fun c a w=>hQ c a _ _ w) hm (h w1 (hl.trans hl1)))
      obtain⟨a0,rfl,hm0,hl',h'⟩:=h'
      exact⟨hl',ih _ a0 w' w' hB hSg h' hm0 (Later.refl _) (((hl1.trans hl').below.block g (by
       rcases QDJ g w2.heap.size with hlt|hge
       ·exact hlt
       ·rw[QEb hge]at hg
        cases hg)).trans hg)⟩
    | 2,_=>
      obtain⟨o,ho,h⟩:=h
      obtain rfl:o=ok:=Option.some.inj (ho.symm.trans hok)
      refine⟨o,ho,fun w1 g' hl1 hb' hS' hg'=>?_⟩
      rw[Act.put_comm a _ _ h2,QsN]
      exact ih _ _ w1 w1 hB (fun hx=>hx.elim (fun e=>hS' (.inl e.symm)) hSg) (h w1 g' (hl.trans hl1) hb' (fun hx=>hS' (.inr hx)) hg') (keep a hm _) (Later.refl _) ((hl1.below.block g (by
       rcases QDJ g w2.heap.size with hlt|hge
       ·exact hlt
       ·rw[QEb hge]at hg
        cases hg)).trans hg)
def mkB (ops:Array Oper) (j:Nat) (l:List (Nat×Nat)):Bool:=((ops[j]?).map fun oj=>QdN ops oj j l).getD false
theorem QtZ {j:Nat} {l:List (Nat×Nat)} (h:mkB ops j l=true):∃oj,ops[j]?=some oj∧QdN ops oj j l=true:=by
 unfold mkB at h
 cases hq:ops[j]? with
 | none=>simp[hq]at h
 | some o=>exact⟨o,rfl,by simpa [hq] using h⟩
theorem QgF {oi:Oper} {i:Nat}:∀ {l:List (Nat×Nat)},QdN ops oi i l=true→(i,2)∈l
 | [],h=>by simp[QdN]at h
 | (k,kd) :: r,h=>by
   unfold QdN at h
   by_cases hk:k=i
   ·rw[if_pos hk]at h
    obtain rfl:kd=2:=by simpa using h
    subst hk
    simp
   ·rw[if_neg hk]at h
    simp only[QC2]at h
    exact QEy _ (QgF h.2)
theorem Qcd (i:Nat):∀(l:List (Nat×Nat)) (x:Nat×Nat),x∈Qce i l→x∈l
 | [],_,h=>h
 | (k,kd) :: r,x,h=>by
   unfold Qce at h
   split at h
   ·exact QEy _ h
   ·rcases QCZ.1 h with rfl|h
    ·exact QEJ
    ·exact QEy _ (Qcd i r x h)
theorem Qd4 {oi:Oper} {i:Nat}:∀ {l:List (Nat×Nat)},QdN ops oi i l=true→(Qce i l).length+1=l.length
 | [],h=>by simp[QdN]at h
 | (k,kd) :: r,h=>by
   unfold QdN at h
   unfold Qce
   by_cases hk:k=i
   ·rw[if_pos hk]
    rfl
   ·rw[if_neg hk]at h
    rw[if_neg hk]
    simp only[QC2]at h
    simp[Qd4 h.2]
def okM (ops:Array Oper) (tl:Nat→Bool):Nat→Bool→List (Nat×Nat)→Array Bool→Bool
 | _,_,[],listed=>(Region.ready .any ops listed).isEmpty
 | 0,_,_ :: _,_=>false
 | n+1,fz,(i,kd) :: r,listed=>
   let rd:=Region.ready .any ops listed
   if kd=0 then fz&&rd.contains i&&Region.free .any ops listed i&&((ops[i]?).map calm).getD false&& !tl i&&okM ops tl n fz r (listed.setIfInBounds i true)
   else if kd=1 then fz&& !tl i&&rd.contains i&&rd.all fun j=>if j=i then okM ops tl n fz r (listed.setIfInBounds i true) else mkB ops j ((i,kd) :: r)&& !tl j&&okM ops tl n fz (Qce j ((i,kd) :: r)) (listed.setIfInBounds j true)
   else if kd=2 then fz&& !rd.isEmpty&&rd.all fun j=>mkB ops j ((i,kd) :: r)&& !tl j&&okM ops tl n fz (Qce j ((i,kd) :: r)) (listed.setIfInBounds j true)
   else decide (rd=[i])&&tl i&&okM ops tl n false r (listed.setIfInBounds i true)
def Sep (ops:Array Oper) (l:List (Nat×Nat)):Prop:=
 ∀i oi,(i,2)∈l→ops[i]?=some oi→∀k kd ok,(k,kd)∈l→k≠i→ops[k]?=some ok→∀d,ok.dst=some d→d∉oi.looksAt ops
theorem Sep.sub {l l':List (Nat×Nat)} (h:Sep ops l) (hs:∀x,x∈l'→x∈l):Sep ops l':=
 fun i oi hi ho k kd ok hk hne hok d hd=>h i oi (hs _ hi) ho k kd ok (hs _ hk) hne hok d hd
def Specs (P:Program) (ops:Array Oper) (mk:Nat→(Nat→Value)×Obj) (l:List (Nat×Nat)) (a:Act):Prop:=∀i oi,(i,2)∈l→ops[i]?=some oi→Makes P ops oi (mk i).1 (mk i).2 a
theorem Specs.put {mk:Nat→(Nat→Value)×Obj} {l l':List (Nat×Nat)} {a:Act} {k kd:Nat} {ok:Oper} (h:Specs P ops mk l' a) (hs:∀x,x∈l'→x∈l) (hsep:Sep ops l) (hk:(k,kd)∈l) (hok:ops[k]?=some ok) (hnot:k∉l'.map (·.1))
 (hsel:∀(j:Nat) (o:Oper) cs b,ops[j]?=some o→o.op≠ .select cs b) (x:Value):Specs P ops mk l' (a.put ok.dst x):=by
 intro i oi hi ho
 have hne:k≠i:=fun e=>hnot (QDs.2 ⟨_,hi,e.symm⟩)
 have h3:=hsep i oi (hs _ hi) ho k kd ok hk hne hok
 exact (h i oi hi ho).of_same (execOp_put oi (fun cs b=>hsel i oi cs b ho) a ok.dst x h3) (wanted_put oi a ok.dst x h3)
theorem Specs.defers {mk:Nat→(Nat→Value)×Obj} {l:List (Nat×Nat)} {a:Act} (h:Specs P ops mk l a) (d:Deferred):Specs P ops mk l { a with defers:=d :: a.defers }:=
 fun i oi hi ho=>(h i oi hi ho).of_same rfl rfl
theorem QcY (w:World) (o:Obj):Later w (w.alloc o):=.of_below ((Below.refl _ _).alloc (QCP _) o)
theorem Qeu {i:Nat}:∀ {l:List (Nat×Nat)},(l.map (·.1)).Nodup→((Qce i l).map (·.1)).Nodup∧i∉(Qce i l).map (·.1)
 | [],_=>by simp[Qce]
 | (k,kd) :: r,h=>by
   simp only[QC9,QEI]at h
   unfold Qce
   by_cases hk:k=i
   ·rw[if_pos hk]
    subst hk
    exact⟨h.2,h.1⟩
   ·rw[if_neg hk]
    obtain⟨h1,h2⟩:=Qeu (i:=i) h.2
    refine⟨?_,?_⟩
    ·simp only[QC9,QEI]
     refine⟨fun hm=>h.1 ?_,h1⟩
     obtain⟨x,hx,he⟩:=QDs.1 hm
     exact QDs.2 ⟨x,Qcd i r x hx,he⟩
    ·simp only[QC9,QCZ,not_or]
     exact⟨fun e=>hk e.symm,h2⟩
theorem sim {base:Nat} {mk:Nat→(Nat→Value)×Obj} {ts:List Nat} (hT:Qi0 ops ts=true) (hsel:∀(j:Nat) (o:Oper) cs b,ops[j]?=some o→o.op≠ .select cs b)
 (hQ1:∀c a d v w,Q (.panic c) (a.put d v) w→Q (.panic c) a w) (hQ2:∀c a d v w,Q (.panic c) a w→Q (.panic c) (a.put d v) w):
 ∀(n:Nat) (S:Nat→Prop) (fz:Bool) (l:List (Nat×Nat)) (listed:Array Bool) (a:Act) (w:World),l.length=n→(l.map (·.1)).Nodup→okM ops ts.contains n fz l listed=true→Closed ops listed→Sep ops l→(fz=true→Specs P ops mk l a∧base≤w.heap.size∧∀n,S n→n<w.heap.size)→
  wpM P ops Q base mk S fz l a w→Qdl P ops Q ts.contains n listed a w
 | 0,S,fz,l,listed,a,w,hn,_,hB,_,_,_,h=>by
   obtain rfl:l=[]:=QDk hn
   unfold okM at hB
   exact⟨by simpa using hB,h⟩
 | n+1,S,fz,[],_,_,_,hn,_,_,_,_,_,_=>by simp at hn
 | n+1,S,fz,(i,kd) :: r,listed,a,w,hn,hnd,hB,hcl,hsep,hfzz,h=>by
   have hr':r.length=n:=by simpa using hn
   have hnd':=hnd
   simp only[QC9,QEI]at hnd'
   have ih:=fun S fz l listed a w=>sim (base:=base) (mk:=mk) hT hsel hQ1 hQ2 n S fz l listed a w
   have hsub:∀x,x∈r→x∈(i,kd) :: r:=fun x hx=>QEy _ hx
   have hspr:fz=true→Specs P ops mk r a:=fun hf k ok hk hok=>(hfzz hf).1 k ok (hsub _ hk) hok
   have made:∀j,fz=true→mkB ops j ((i,kd) :: r)=true→ts.contains j=false→okM ops ts.contains n fz (Qce j ((i,kd) :: r)) (listed.setIfInBounds j true)=true→j∈Region.ready .any ops listed→
    wpOp P ops Q j (fun a' w'=>(ts.contains j=false→Later w w')∧Qdl P ops Q ts.contains n (listed.setIfInBounds j true) a' w') a w:=by
    intro j hfz hmk htj hok hj
    subst hfz
    obtain⟨hsp,hb,hSb⟩:=hfzz rfl
    obtain⟨oj,hoj,hah⟩:=QtZ hmk
    have hmem:=QgF hah
    obtain⟨hw,hrun⟩:=hsp j oj hmem hoj
    have hlen:=Qd4 hah
    have hst:=Qeu (i:=j) hnd
    unfold wpOp
    simp only[hoj,hw,if_true]
    refine .inl ?_
    unfold Oper.wp
    rw[hrun w]
    refine⟨fun _=>QcY w _,ih (fun n=>n=w.heap.size∨S n) true _ _ _ _ (by rw[QDp]at hlen;omega) hst.1 hok (hcl.set hj) (hsep.sub (Qcd j _)) (fun _=>⟨?_,QDm hb (QcY w _).below.size,fun n hn=>by
     have hsz:(w.alloc (mk j).2).heap.size=w.heap.size+1:=by simp
     rw[hsz]
     rcases hn with rfl|hn
     ·omega
     ·have:=hSb n hn
      omega⟩) ?_⟩
    ·exact Specs.put (l:=(i,kd) :: r) (fun k ok hk hok'=>hsp k ok (Qcd j _ _ hk) hok') (Qcd j _) hsep hmem hoj hst.2 hsel _
    ·exact Qwk hoj hsel hQ2 hb _ S a w _ hah (fun hx=>Nat.lt_irrefl _ (hSb _ hx)) h ⟨hw,hrun⟩ (QcY w _) (heap_alloc_new w _)
   unfold okM at hB
   simp only at hB
   by_cases h0:kd=0
   ·subst h0
    simp only[if_true,QC2]at hB
    obtain⟨⟨⟨⟨⟨hfz,hrd⟩,hf⟩,hcm⟩,htl⟩,hok⟩:=hB
    subst hfz
    obtain⟨o,ho,h⟩:=h
    have hri:i∈Region.ready .any ops listed:=by simpa using hrd
    have hcm':calm o=true:=by simpa [ho] using hcm
    have htl':ts.contains i=false:=by simpa using htl
    have next:∀v,YieldsIf P ops (Later w) o v a→wpM P ops Q base mk S true r (a.put o.dst v) w→Qdl P ops Q ts.contains (n+1) listed a w:=fun v hy hnx=>
     Qfe hT ho htl' hsel (fun c a w=>hQ1 c a _ _ w) hcl (Region.free_spec ho hf) hri hy
      (ih S true r _ _ w hr' hnd'.2 hok (hcl.set hri) (hsep.sub hsub) (fun _=>⟨Specs.put (l:=(i,0) :: r) (hspr rfl) hsub hsep QEJ ho hnd'.1 hsel v,(hfzz rfl).2⟩) hnx)
    by_cases hw:Region.wanted o (yielded ops a.tmps)=true
    ·rw[if_pos hw]at h
     obtain⟨v,hy,hnx⟩:=QcV hcm' hw h
     exact next v hy hnx
    ·rw[if_neg hw]at h
     exact next undef (.inr ⟨by simpa using hw,rfl⟩) h
   ·rw[if_neg h0]at hB
    by_cases h1:kd=1
    ·subst h1
     simp only[if_true,QC2,QEh]at hB
     obtain⟨⟨⟨hfz,htl⟩,hrd⟩,hall⟩:=hB
     subst hfz
     have hri:i∈Region.ready .any ops listed:=by simpa using hrd
     refine⟨fun he=>(by rw[he]at hri;cases hri),fun j hj=>?_⟩
     have hj2:=QDn.1 hall j hj
     by_cases hji:j=i
     ·subst hji
      rw[if_pos rfl]at hj2
      obtain⟨_,oi,hoi,_⟩:=mem_ready.1 hri
      refine wpOp_mono (fun a' w' h'=>?_) (Qo2 hoi (I:=Specs P ops mk r) (hspr rfl) (fun a hI x=>Specs.put (l:=(j,1) :: r) hI hsub hsep QEJ hoi hnd'.1 hsel x) (fun a hI d=>hI.defers d) (h w (Later.refl w)))
      obtain⟨hI,hl',h'⟩:=h'
      exact⟨fun _=>hl',ih S true r _ a' w' hr' hnd'.2 hj2 (hcl.set hj) (hsep.sub hsub) (fun _=>⟨hI,QDm (hfzz rfl).2.1 hl'.below.size,fun n hn=>QCX ((hfzz rfl).2.2 n hn) hl'.below.size⟩) h'⟩
     ·rw[if_neg hji]at hj2
      simp only[QC2,QEh]at hj2
      exact made j rfl hj2.1.1 hj2.1.2 hj2.2 hj
    ·rw[if_neg h1]at hB
     by_cases h2:kd=2
     ·subst h2
      simp only[if_true,QC2,QEh]at hB
      obtain⟨⟨hfz,hne⟩,hall⟩:=hB
      refine⟨fun he=>(by rw[he]at hne;simp at hne),fun j hj=>?_⟩
      have hj2:=QDn.1 hall j hj
      simp only[QC2,QEh]at hj2
      exact made j hfz hj2.1.1 hj2.1.2 hj2.2 hj
     ·rw[if_neg h2]at hB
      simp only[QC2,decide_eq_true_eq]at hB
      obtain⟨⟨hrd,htl⟩,hok⟩:=hB
      refine⟨fun he=>(by rw[hrd]at he;cases he),fun j hj=>?_⟩
      rw[hrd]at hj
      obtain rfl:j=i:=by simpa using hj
      have hri:j∈Region.ready .any ops listed:=by rw[hrd];simp
      obtain⟨_,oi,hoi,_⟩:=mem_ready.1 hri
      have h':wpOp P ops Q j (fun a' w'=>wpM P ops Q base mk S false r a' w') a w:=by
       obtain⟨m,rfl⟩:∃m,kd=m+3:=⟨kd-3,by omega⟩
       cases fz with
       | true=>exact h w (Later.refl w)
       | false=>exact h
      exact wpOp_mono (fun a' w' h'=>⟨fun hc=>(by rw[htl]at hc;cases hc),ih S false r _ a' w' hr' hnd'.2 hok (hcl.set hri) (hsep.sub hsub) (fun hf=>by cases hf) h'⟩) h'
end
section
variable {P:Program} {Q:Exit→Act→World→Prop}
def Qbi (P:Program) (l:List Oper) (Q:Exit→Act→World→Prop) (base:Nat) (mk:Nat→(Nat→Value)×Obj) (qs ts:List Nat):(Nat→Prop)→List (List Nat×Nat×Nat)→Act→World→Prop
 | _,[],a,w=>wpQuiet P l.toArray (fun w'=>∃x,w'=grow w x) (fun a'=>∀w1,Later w w1→wpList P l.toArray Q (pick l ts) a' w1) (pick l qs) a
 | S,(q,1,i) :: r,a,w=>wpQuiet P l.toArray (fun w'=>∃x,w'=grow w x) (fun a'=>∀w1,Later w w1→wpList P l.toArray (Exit.then (fun a'' w''=>Later w1 w''∧Qbi P l Q base mk qs ts S r a'' w'') Q) (pick l [i]) a' w1) (pick l q) a
 | S,(q,_,i) :: r,a,w=>wpQuiet P l.toArray (fun w'=>∃x,w'=grow w x) (fun a'=>∀w1 g,Later w w1→base≤g→ ¬S g→w1.heap[g]?=some (mk i).2→Qbi P l Q base mk qs ts (fun n=>n=g∨S n) r (a'.put ((l[i]?).bind (·.dst)) ((mk i).1 g)) w1) (pick l q) a
def Qhn (qs ts:List Nat):List (List Nat×Nat×Nat)→List (Nat×Nat)
 | []=>qs.map (·,0)++ts.map (·,3)
 | (q,1,i) :: r=>q.map (·,0)++(i,1) :: Qhn qs ts r
 | (q,_,i) :: r=>q.map (·,0)++(i,2) :: Qhn qs ts r
theorem Qk7 {l:List Oper} {base:Nat} {mk:Nat→(Nat→Value)×Obj} {S:Nat→Prop} {Qa:Act→Prop} {r:List (Nat×Nat)} {w:World} (hQa:∀a,Qa a→wpM P l.toArray Q base mk S true r a w):∀(qs:List Nat),(qs.all fun i=>decide (i<l.length))=true→
 ∀a,wpQuiet P l.toArray (Later w) Qa (pick l qs) a→wpM P l.toArray Q base mk S true (qs.map (·,0)++r) a w
 | [],_,a,h=>hQa a h
 | i :: qs,hb,a,h=>by
   simp only[QDZ,QC2,decide_eq_true_eq]at hb
   have hi:l[i]?=some (l[i]'hb.1):=QCJ hb.1
   refine⟨l[i]'hb.1,by simp[hb.1],?_⟩
   simp only[pick,hi,QCG,QEt,wpQuiet]at h
   by_cases hw:Region.wanted (l[i]'hb.1) (yielded l.toArray a.tmps)=true
   ·rw[if_pos hw]at h ⊢
    exact Oper.quiet_mono (fun a' h'=>Qk7 hQa qs hb.2 a' h') h
   ·rw[if_neg hw]at h ⊢
    exact Qk7 hQa qs hb.2 _ h
theorem QwY {l:List Oper} {base:Nat} {mk:Nat→(Nat→Value)×Obj} {S:Nat→Prop}:∀(ts:List Nat),(ts.all fun i=>decide (i<l.length))=true→
 ∀a w,wpList P l.toArray Q (pick l ts) a w→wpM P l.toArray Q base mk S false (ts.map (·,3)) a w
 | [],_,a,w,h=>h
 | i :: ts,hb,a,w,h=>by
   simp only[QDZ,QC2,decide_eq_true_eq]at hb
   have hi:l[i]?=some (l[i]'hb.1):=QCJ hb.1
   simp only[pick,hi,QCG,QEt,wpList]at h
   show wpOp P l.toArray Q i _ a w
   unfold wpOp
   simp only[List.getElem?_toArray,hi]
   by_cases hw:Region.wanted (l[i]'hb.1) (yielded l.toArray a.tmps)=true
   ·rw[if_pos hw]at h ⊢
    exact h.imp (Oper.wp_mono fun a w1 h=>QwY ts hb.2 a w1 h) id
   ·rw[if_neg hw]at h ⊢
    exact QwY ts hb.2 _ _ h
theorem QzX {l:List Oper} {base:Nat} {mk:Nat→(Nat→Value)×Obj} {S:Nat→Prop} (ts:List Nat) (hb:(ts.all fun i=>decide (i<l.length))=true) (a:Act) (w:World) (h:∀w1,Later w w1→wpList P l.toArray Q (pick l ts) a w1):
 wpM P l.toArray Q base mk S true (ts.map (·,3)) a w:=by
 cases ts with
 | nil=>exact h w (Later.refl w)
 | cons i ts=>
   intro w1 hl
   exact QwY (i :: ts) hb a w1 (h w1 hl)
theorem Qwg {l:List Oper} {base:Nat} {mk:Nat→(Nat→Value)×Obj} {qs ts:List Nat} (hq:(qs.all fun i=>decide (i<l.length))=true) (ht:(ts.all fun i=>decide (i<l.length))=true):
 ∀(segs:List (List Nat×Nat×Nat)),(segs.all fun s=>decide (s.2.2<l.length)&&s.1.all fun i=>decide (i<l.length))=true→∀S a w,Qbi P l Q base mk qs ts S segs a w→wpM P l.toArray Q base mk S true (Qhn qs ts segs) a w
 | [],_,S,a,w,h=>Qk7 (fun a h=>QzX ts ht a w h) qs hq a h
 | (q,kd,i) :: r,hb,S,a,w,h=>by
   simp only[QDZ,QC2,decide_eq_true_eq]at hb
   have ih:=Qwg (base:=base) (mk:=mk) hq ht r hb.2
   by_cases h1:kd=1
   ·subst h1
    refine Qk7 (fun a h=>?_) q hb.1.2 a h
    intro w1 hl
    exact wpOp_mono (fun a' w' h'=>⟨h'.1,ih S a' w' h'.2⟩) (Qcx hb.1.1 (h w1 hl))
   ·have e1:Qhn qs ts ((q,kd,i) :: r)=q.map (·,0)++(i,2) :: Qhn qs ts r:=by
     match kd,h1 with
     | 0,_=>rfl
     | k+2,_=>rfl
    rw[e1]
    have h':wpQuiet P l.toArray (fun w'=>∃x,w'=grow w x) (fun a'=>∀w1 g,Later w w1→base≤g→ ¬S g→w1.heap[g]?=some (mk i).2→Qbi P l Q base mk qs ts (fun n=>n=g∨S n) r (a'.put ((l[i]?).bind (·.dst)) ((mk i).1 g)) w1) (pick l q) a:=by
     match kd,h1,h with
     | 0,_,h=>exact h
     | k+2,_,h=>exact h
    refine Qk7 (fun a h=>?_) q hb.1.2 a h'
    have hi:l[i]?=some (l[i]'hb.1.1):=QCJ hb.1.1
    refine⟨l[i]'hb.1.1,by simp[hb.1.1],fun w1 g hl hg hS hh=>?_⟩
    have:=h w1 g hl hg hS hh
    rw[hi]at this
    exact ih _ _ w1 this
def MakesAll (P:Program) (l:List Oper) (mk:Nat→(Nat→Value)×Obj) (a:Act):List Nat→Prop
 | []=>True
 | i :: r=>(∀ o,l[i]?=some o→Makes P l.toArray o (mk i).1 (mk i).2 a)∧MakesAll P l mk a r
theorem MakesAll.at_ {l:List Oper} {mk:Nat→(Nat→Value)×Obj} {a:Act}:∀ {ms:List Nat},MakesAll P l mk a ms→∀i∈ms,∀o,l[i]?=some o→Makes P l.toArray o (mk i).1 (mk i).2 a
 | [],_,i,hi=>by cases hi
 | m :: ms,h,i,hi=>by
   rcases QCZ.1 hi with rfl|hi
   ·exact h.1
   ·exact MakesAll.at_ h.2 i hi
def sepB (l:List Oper) (f:List (Nat×Nat)):Bool:=
 f.all fun x=>decide (x.2≠2)||f.all fun y=>decide (y.1=x.1)||((l[x.1]?).bind fun oi=>(l[y.1]?).map fun ok=>match ok.dst with
  | some d=> !((oi.looksAt l.toArray).contains d)
  | none=>true).getD false
theorem QlX {l:List Oper} {f:List (Nat×Nat)} (h:sepB l f=true):Sep l.toArray f:=by
 intro i oi hi ho k kd ok hk hne hok d hd hmem
 have h1:=QDn.1 h _ hi
 simp only[ne_eq,not_true_eq_false,decide_false,Bool.false_or]at h1
 have h2:=QDn.1 h1 _ hk
 have ho':l[i]?=some oi:=by simpa using ho
 have hok':l[k]?=some ok:=by simpa using hok
 simp only[hne,decide_false,Bool.false_or,ho',hok',QD1,QEd,QEL,hd,QEh]at h2
 have:(oi.looksAt l.toArray).contains d=true:=by simpa using hmem
 rw[this]at h2
 cases h2
def Quh (l:List Oper) (pre:List Nat) (tl:Nat→Bool):List Nat→Array Bool→Bool
 | [],_=>true
 | i :: r,listed=>(Region.ready .any l.toArray listed).contains i&&Region.free .any l.toArray listed i&&((l[i]?).map calm).getD false&& !tl i&&Quh l pre tl r (listed.setIfInBounds i true)
def Qj0 (l:List Nat) (listed:Array Bool):Array Bool:=l.foldl (fun s i=>s.setIfInBounds i true) listed
def QqW (l:List Oper) (pre qs ts ms:List Nat) (segs:List (List Nat×Nat×Nat)):Bool:=
 Region.noSelect l.toArray&&Qi0 l.toArray ts&&(pre.all fun i=>decide (i<l.length))&&(qs.all fun i=>decide (i<l.length))&&(ts.all fun i=>decide (i<l.length))&&(segs.all fun s=>decide (s.2.2<l.length)&&s.1.all fun i=>decide (i<l.length)) &&
 Quh l pre ts.contains pre (QEe l.length false)&&okM l.toArray ts.contains (Qhn qs ts segs).length true (Qhn qs ts segs) (Qj0 pre (QEe l.length false)) &&
 sepB l (Qhn qs ts segs)&&decide (((Qhn qs ts segs).map (·.1)).Nodup)&&decide (pre.length+(Qhn qs ts segs).length=l.length)&&(Qhn qs ts segs).all fun x=>decide (x.2≠2)||ms.contains x.1
theorem Qlq {l:List Oper} {pre ts:List Nat} {n:Nat} {w:World} {Qa:Act→Prop} (hT:Qi0 l.toArray ts=true) (hsel:∀(j:Nat) (o:Oper) cs b,l.toArray[j]?=some o→o.op≠ .select cs b)
 (hQ1:∀c a d v w,Q (.panic c) (a.put d v) w→Q (.panic c) a w):∀(p:List Nat) (listed:Array Bool) (a:Act),Closed l.toArray listed→Quh l pre ts.contains p listed=true→(p.all fun i=>decide (i<l.length))=true→
   wpQuiet P l.toArray (Later w) Qa (pick l p) a→(∀ a',Qa a'→Closed l.toArray (Qj0 p listed)→Qdl P l.toArray Q ts.contains n (Qj0 p listed) a' w)→Qdl P l.toArray Q ts.contains (p.length+n) listed a w
 | [],listed,a,hcl,_,_,h,hk=>by
   rw[List.length_nil,QC4]
   exact hk a h hcl
 | i :: p,listed,a,hcl,hB,hb,h,hk=>by
   simp only[Quh,QC2]at hB
   obtain⟨⟨⟨⟨hrd,hf⟩,hcm⟩,htl⟩,hB'⟩:=hB
   simp only[QDZ,QC2,decide_eq_true_eq]at hb
   have hi:l[i]?=some (l[i]'hb.1):=QCJ hb.1
   have ho:l.toArray[i]?=some (l[i]'hb.1):=by simp[hb.1]
   have hri:i∈Region.ready .any l.toArray listed:=by simpa using hrd
   have hcm':calm (l[i]'hb.1)=true:=by rw[hi]at hcm;simpa using hcm
   have htl':ts.contains i=false:=by simpa using htl
   simp only[pick,hi,QCG,QEt,wpQuiet]at h
   rw[show (i :: p).length+n=(p.length+n)+1 by simp;omega]
   have next:∀v,YieldsIf P l.toArray (Later w) (l[i]'hb.1) v a→wpQuiet P l.toArray (Later w) Qa (pick l p) (a.put (l[i]'hb.1).dst v)→Qdl P l.toArray Q ts.contains (p.length+n+1) listed a w:=fun v hy hnx=>
    Qfe hT ho htl' hsel (fun c a w=>hQ1 c a _ _ w) hcl (Region.free_spec ho hf) hri hy (Qlq hT hsel hQ1 p _ _ (hcl.set hri) hB' hb.2 hnx hk)
   by_cases hw:Region.wanted (l[i]'hb.1) (yielded l.toArray a.tmps)=true
   ·rw[if_pos hw]at h
    obtain⟨v,hy,hnx⟩:=QcV hcm' hw h
    exact next v hy hnx
   ·rw[if_neg hw]at h
    exact next undef (.inr ⟨by simpa using hw,rfl⟩) h
theorem Qay {id:Nat} {a:Act} {w:World} {l:List Oper} (pre:List Nat) (segs:List (List Nat×Nat×Nat)) (qs ts ms:List Nat) (mk:Nat→(Nat→Value)×Obj) (hm:P.follows .mixedOrders=true) (hB:QqW l pre qs ts ms segs=true)
 (hQ1:∀c a d v w,Q (.panic c) (a.put d v) w→Q (.panic c) a w) (hQ2:∀c a d v w,Q (.panic c) a w→Q (.panic c) (a.put d v) w)
 (h:wpQuiet P l.toArray (fun w'=>∃x,w'=grow w.drew x) (fun a'=>MakesAll P l mk a' ms∧Qbi P l Q w.heap.size mk qs ts (fun _=>False) segs a' w.drew) (pick l pre) a):(Code.region id l.toArray true).wp P Q a w:=by
 simp only[QqW,QC2,decide_eq_true_eq]at hB
 obtain⟨⟨⟨⟨⟨⟨⟨⟨⟨⟨⟨hs,hT⟩,hp⟩,hq⟩,ht⟩,hsg⟩,hph⟩,hok⟩,hsep⟩,hnd⟩,hlen⟩,hms⟩:=hB
 refine wp_region_any hm (Qfm (tl:=ts.contains) _ _ _ _ ?_)
 have hsel:=Region.noSelect_spec hs
 have:=Qlq (P:=P) (Q:=Q) (pre:=pre) (n:=(Qhn qs ts segs).length) (w:=w.drew) hT hsel hQ1 pre (QEe l.length false) a (Qfc l) hph hp h (fun a' ⟨h1,h2⟩ hcl=>
  sim (base:=w.heap.size) (mk:=mk) hT hsel hQ1 hQ2 _ (fun _=>False) true _ _ a' w.drew rfl hnd hok hcl (QlX hsep)
   (fun _=>⟨fun i oi hi ho=>h1.at_ i (by
     have h3:=QDn.1 hms _ hi
     simpa using h3) oi (by simpa using ho),QCP _,fun _ h=>h.elim⟩) (Qwg hq ht segs hsg _ a' w.drew h2))
 rw[hlen]at this
 simpa using this
end
section
variable {P:Program} {ops:Array Oper} {Q:Exit→Act→World→Prop} {T:World→Prop}
def Qjl (P:Program) (ops:Array Oper) (Q:Exit→Act→World→Prop) (T:World→Prop):Nat→Array Bool→Act→World→Prop
 | 0,listed,a,w=>Region.ready .any ops listed=[]∧Q .normal a w
 | fuel+1,listed,a,w=>
   (Region.ready .any ops listed=[]→Q .normal a w)∧
   ∀i∈Region.ready .any ops listed,wpOp P ops Q i (fun a' w'=>T w'∧Qjl P ops Q T fuel (listed.setIfInBounds i true) a' w') a w
theorem Qi3:∀(fuel:Nat) (listed:Array Bool) (a:Act) (w:World),Qjl P ops Q T fuel listed a w→wpAny P .any ops Q fuel listed a w
 | 0,_,_,_,h=>h
 | fuel+1,_,_,_,h=>⟨h.1,fun i hi=>wpOp_mono (fun a' w' h'=>Qi3 fuel _ a' w' h'.2) (h.2 i hi)⟩
theorem QcM {o:Oper} {a:Act} {K:Act→Prop} (hc:calm o=true) (hw:Region.wanted o (yielded ops a.tmps)=true) (h:o.quiet P a T K):
 ∃v,YieldsIf P ops T o v a∧K (a.put o.dst v):=by
 obtain⟨v,h1,h2⟩:=h
 refine⟨v,.inl ⟨hw,fun w hl=>?_⟩,h2⟩
 have h3:=h1 w hl
 unfold Oper.quietAt at h3
 cases hr:(execOp a.eval o).run P w with
 | halt x w'=>rw[hr]at h3;exact absurd h3 (by simp[Oper.quietUpon])
 | ok n w'=>
   obtain⟨u,rfl⟩:=Qfn hc hr
   rw[hr]at h3
   obtain⟨rfl,rfl⟩:=h3
   rfl
theorem QkM {i:Nat} {oi:Oper} {v:Value} (hi:ops[i]?=some oi) (hsel:∀(j:Nat) (o:Oper) cs b,ops[j]?=some o→o.op≠ .select cs b)
 (hQ:∀c a w,Q (.panic c) (a.put oi.dst v) w→Q (.panic c) a w):
 ∀(fuel:Nat) (listed:Array Bool) (a:Act) (w:World),
  (∀ j oj,ops[j]?=some oj→j≠i→listed.getD j true=false→(∀ e∈oj.after,Region.binds .any e=true→e.on≠i)→oi.apart ops oj=true)→
  i∈Region.ready .any ops listed→YieldsIf P ops T oi v a→T w→
  Qjl P ops Q T fuel (listed.setIfInBounds i true) (a.put oi.dst v) w→Qjl P ops Q T (fuel+1) listed a w:=by
 intro fuel
 induction fuel with
 | zero=>
   intro listed a w _ hr hy hS H
   refine⟨fun h=>(by rw[h]at hr;cases hr),fun j hj=>?_⟩
   by_cases hji:j=i
   ·subst hji;exact hy.wpOp hi hS ⟨hS,H⟩
   ·have:=ready_mono hj hji
    rw[H.1]at this
    cases this
 | succ fuel ih=>
   intro listed a w hfree hr hy hS H
   refine⟨fun h=>(by rw[h]at hr;cases hr),fun j hj=>?_⟩
   by_cases hji:j=i
   ·subst hji;exact hy.wpOp hi hS ⟨hS,H⟩
   ·have h1:=H.2 j (ready_mono hj hji)
    obtain⟨hjun,oj,hoj,hall⟩:=mem_ready.1 hj
    have hiun:=(mem_ready.1 hr).1
    have hnot:∀e∈oj.after,Region.binds .any e=true→e.on≠i:=fun e he hb heq=>by
     have h1:=hall e he hb
     rw[heq,QbI hiun]at h1
     cases h1
    have h2:=wpOp_putIf hoj (hfree j oj hoj hji hjun hnot) (fun cs b=>hsel i oi cs b hi) (fun cs b=>hsel j oj cs b hoj) hQ hy h1
    have hfree':∀k ok,ops[k]?=some ok→k≠i→(listed.setIfInBounds j true).getD k true=false→
     (∀ e∈ok.after,Region.binds .any e=true→e.on≠i)→oi.apart ops ok=true:=fun k ok hk hki hun hno=>by
     refine hfree k ok hk hki ?_ hno
     by_cases hjk:j=k
     ·subst hjk;exact hjun
     ·rw[getD_set_ne true hjk]at hun;exact hun
    refine wpOp_mono (fun a' w' h3=>⟨h3.2.1,ih (listed.setIfInBounds j true) a' w' hfree' (ready_mono hr (Ne.symm hji)) h3.1 h3.2.1 ?_⟩) h2
    rw[Array.setIfInBounds_comm _ _ hji]
    exact h3.2.2
def wpN (P:Program) (ops:Array Oper) (Q:Exit→Act→World→Prop) (T:World→Prop) (base:Nat) (mk:Nat→(Nat→Value)×Obj):(Nat→Prop)→Bool→List (Nat×Nat)→Act→World→Prop
 | _,_,[],a,w=>Q .normal a w
 | S,fz,(i,0) :: r,a,w=>∃o,ops[i]?=some o∧if Region.wanted o (yielded ops a.tmps) then o.quiet P a T (fun a'=>wpN P ops Q T base mk S fz r a' w) else wpN P ops Q T base mk S fz r (a.put o.dst undef) w
 | S,fz,(i,2) :: r,a,w=>∃o,ops[i]?=some o∧∀w1 g,Later w w1→base≤g→ ¬S g→w1.heap[g]?=some (mk i).2→wpN P ops Q T base mk (fun n=>n=g∨S n) fz r (a.put o.dst ((mk i).1 g)) w1
 | S,true,(i,_) :: r,a,w=>∀w1,Later w w1→wpOp P ops Q i (fun a' w'=>T w'∧wpN P ops Q T base mk S false r a' w') a w1
 | S,false,(i,_) :: r,a,w=>wpOp P ops Q i (fun a' w'=>T w'∧wpN P ops Q T base mk S false r a' w') a w
def Qgp (ops:Array Oper) (oi:Oper) (i:Nat):List (Nat×Nat)→Bool
 | []=>false
 | (k,kd) :: r=>if k=i then decide (kd=2) else (decide (kd=0)||decide (kd=2))&&((ops[k]?).map fun ok=>oi.apart ops ok&&(kd != 0||calm ok)).getD false&&Qgp ops oi i r
theorem Qe2 {oi:Oper} {i:Nat}:∀ {l:List (Nat×Nat)},Qgp ops oi i l=true→QdN ops oi i l=true
 | [],h=>by simp[Qgp]at h
 | (k,kd) :: r,h=>by
   unfold Qgp at h
   unfold QdN
   by_cases hk:k=i
   ·rw[if_pos hk]at h ⊢
    exact h
   ·rw[if_neg hk]at h ⊢
    simp only[QC2,QEH,decide_eq_true_eq]at h ⊢
    exact⟨⟨by rcases h.1.1 with h|h<;>omega,h.1.2⟩,Qe2 h.2⟩
theorem QrT {base:Nat} {mk:Nat→(Nat→Value)×Obj} {i g:Nat} {oi:Oper} (hi:ops[i]?=some oi) (hsel:∀(j:Nat) (o:Oper) cs b,ops[j]?=some o→o.op≠ .select cs b) (hb:base≤g):
 ∀(l:List (Nat×Nat)) (S:Nat→Prop) (a:Act) (w w2:World),Qgp ops oi i l=true→ ¬S g→wpN P ops Q T base mk S true l a w→Makes P ops oi (mk i).1 (mk i).2 a→Later w w2→w2.heap[g]?=some (mk i).2→
  wpN P ops Q T base mk (fun n=>n=g∨S n) true (Qce i l) (a.put oi.dst ((mk i).1 g)) w2
 | [],_,_,_,_,hB,_,_,_,_,_=>by simp[Qgp]at hB
 | (k,kd) :: r,S,a,w,w2,hB,hSg,h,hm,hl,hg=>by
   unfold Qgp at hB
   unfold Qce
   by_cases hk:k=i
   ·subst hk
    rw[if_pos rfl]at hB
    rw[if_pos rfl]
    obtain rfl:kd=2:=by simpa using hB
    obtain⟨o,ho,h⟩:=h
    obtain rfl:o=oi:=Option.some.inj (ho.symm.trans hi)
    exact h w2 g hl hb hSg hg
   ·rw[if_neg hk]at hB
    rw[if_neg hk]
    simp only[QC2,QEH,decide_eq_true_eq]at hB
    obtain⟨⟨hkd,hap⟩,hB⟩:=hB
    obtain⟨ok,hok⟩:∃ok,ops[k]?=some ok:=by
     cases hq:ops[k]? with
     | none=>simp[hq]at hap
     | some o=>exact⟨o,rfl⟩
    have hap2:oi.apart ops ok=true∧(kd=0→calm ok=true):=by
     simp only[hok,QEd,QEL,QC2,QEH,bne_iff_ne]at hap
     exact⟨hap.1,fun h=>by rcases hap.2 with h'|h'<;>first|exact absurd h h'|exact h'⟩
    obtain⟨hap',hcalm⟩:=hap2
    obtain⟨h1,h2,h3⟩:=Oper.apart_spec hap'
    have hsi:=fun cs b=>hsel i oi cs b hi
    have hsk:=fun cs b=>hsel k ok cs b hok
    have keep:∀(a:Act),Makes P ops oi (mk i).1 (mk i).2 a→∀x,Makes P ops oi (mk i).1 (mk i).2 (a.put ok.dst x):=fun a hy x=>
     hy.of_same (execOp_put oi hsi a ok.dst x h3) (wanted_put oi a ok.dst x h3)
    have ih:=QrT (mk:=mk) hi hsel hb r
    rcases hkd with rfl|rfl
    ·obtain⟨o,ho,h⟩:=h
     obtain rfl:o=ok:=Option.some.inj (ho.symm.trans hok)
     refine⟨o,ho,?_⟩
     rw[wanted_put o a oi.dst _ h1]
     split
     ·rename_i hw
      rw[if_pos hw]at h
      obtain⟨x,hx1,hx2⟩:=h
      refine⟨x,fun w' hw'=>?_,?_⟩
      ·have:=hx1 w' hw'
       unfold Oper.quietAt at *
       rw[execOp_put o hsk a oi.dst _ h1]
       cases hr:(execOp a.eval o).run P w' with
       | halt e w3=>rw[hr]at this;exact absurd this (by simp[Oper.quietUpon])
       | ok n w3=>
         rw[hr]at this
         obtain⟨y,rfl⟩:=Qfn (hcalm rfl) hr
         exact this
      ·rw[Act.put_comm a _ x h2]
       exact ih _ _ w w2 hB hSg hx2 (keep a hm x) hl hg
     ·rename_i hw
      rw[if_neg hw]at h
      rw[Act.put_comm a _ undef h2]
      exact ih _ _ w w2 hB hSg h (keep a hm undef) hl hg
    ·obtain⟨o,ho,h⟩:=h
     obtain rfl:o=ok:=Option.some.inj (ho.symm.trans hok)
     refine⟨o,ho,fun w1 g' hl1 hb' hS' hg'=>?_⟩
     rw[Act.put_comm a _ _ h2,QsN]
     exact ih _ _ w1 w1 hB (fun hx=>hx.elim (fun e=>hS' (.inl e.symm)) hSg) (h w1 g' (hl.trans hl1) hb' (fun hx=>hS' (.inr hx)) hg') (keep a hm _) (Later.refl _) ((hl1.below.block g (by
      rcases QDJ g w2.heap.size with hlt|hge
      ·exact hlt
      ·rw[QEb hge]at hg
       cases hg)).trans hg)
def mkN (ops:Array Oper) (j:Nat) (l:List (Nat×Nat)):Bool:=((ops[j]?).map fun oj=>Qgp ops oj j l).getD false
theorem Quy {j:Nat} {l:List (Nat×Nat)} (h:mkN ops j l=true):∃oj,ops[j]?=some oj∧Qgp ops oj j l=true:=by
 unfold mkN at h
 cases hq:ops[j]? with
 | none=>simp[hq]at h
 | some o=>exact⟨o,rfl,by simpa [hq] using h⟩
def okN (ops:Array Oper):Nat→Bool→List (Nat×Nat)→Array Bool→Bool
 | _,_,[],listed=>(Region.ready .any ops listed).isEmpty
 | 0,_,_ :: _,_=>false
 | n+1,fz,(i,kd) :: r,listed=>
   let rd:=Region.ready .any ops listed
   if kd=0 then fz&&rd.contains i&&Region.free .any ops listed i&&((ops[i]?).map calm).getD false&&okN ops n fz r (listed.setIfInBounds i true)
   else if kd=2 then fz&& !rd.isEmpty&&rd.all fun j=>mkN ops j ((i,kd) :: r)&&okN ops n fz (Qce j ((i,kd) :: r)) (listed.setIfInBounds j true)
   else decide (rd=[i])&&decide (kd=3)&&okN ops n false r (listed.setIfInBounds i true)
theorem simN {base:Nat} {mk:Nat→(Nat→Value)×Obj} (hsel:∀(j:Nat) (o:Oper) cs b,ops[j]?=some o→o.op≠ .select cs b)
 (hT:∀w w',T w→Later w w'→T w') (hQ1:∀c a d v w,Q (.panic c) (a.put d v) w→Q (.panic c) a w):
 ∀(n:Nat) (S:Nat→Prop) (fz:Bool) (l:List (Nat×Nat)) (listed:Array Bool) (a:Act) (w:World),l.length=n→(l.map (·.1)).Nodup→okN ops n fz l listed=true→Sep ops l→(fz=true→Specs P ops mk l a∧base≤w.heap.size∧∀n,S n→n<w.heap.size)→T w→
  wpN P ops Q T base mk S fz l a w→Qjl P ops Q T n listed a w
 | 0,S,fz,l,listed,a,w,hn,_,hB,_,_,_,h=>by
   obtain rfl:l=[]:=QDk hn
   unfold okN at hB
   exact⟨by simpa using hB,h⟩
 | n+1,S,fz,[],_,_,_,hn,_,_,_,_,_,_=>by simp at hn
 | n+1,S,fz,(i,kd) :: r,listed,a,w,hn,hnd,hB,hsep,hfzz,hTw,h=>by
   have hr':r.length=n:=by simpa using hn
   have hnd':=hnd
   simp only[QC9,QEI]at hnd'
   have ih:=fun S fz l listed a w=>simN (base:=base) (mk:=mk) hsel hT hQ1 n S fz l listed a w
   have hsub:∀x,x∈r→x∈(i,kd) :: r:=fun x hx=>QEy _ hx
   have hspr:fz=true→Specs P ops mk r a:=fun hf k ok hk hok=>(hfzz hf).1 k ok (hsub _ hk) hok
   unfold okN at hB
   simp only at hB
   by_cases h0:kd=0
   ·subst h0
    simp only[if_true,QC2]at hB
    obtain⟨⟨⟨⟨hfz,hrd⟩,hf⟩,hcm⟩,hok⟩:=hB
    subst hfz
    obtain⟨o,ho,h⟩:=h
    have hri:i∈Region.ready .any ops listed:=by simpa using hrd
    have hcm':calm o=true:=by simpa [ho] using hcm
    have next:∀v,YieldsIf P ops T o v a→wpN P ops Q T base mk S true r (a.put o.dst v) w→Qjl P ops Q T (n+1) listed a w:=fun v hy hnx=>
     QkM ho hsel (fun c a w=>hQ1 c a _ _ w) n listed a w (Region.free_spec ho hf) hri hy hTw
      (ih S true r _ _ w hr' hnd'.2 hok (hsep.sub hsub) (fun _=>⟨Specs.put (l:=(i,0) :: r) (hspr rfl) hsub hsep QEJ ho hnd'.1 hsel v,(hfzz rfl).2⟩) hTw hnx)
    by_cases hw:Region.wanted o (yielded ops a.tmps)=true
    ·rw[if_pos hw]at h
     obtain⟨v,hy,hnx⟩:=QcM hcm' hw h
     exact next v hy hnx
    ·rw[if_neg hw]at h
     exact next undef (.inr ⟨by simpa using hw,rfl⟩) h
   ·rw[if_neg h0]at hB
    by_cases h2:kd=2
    ·subst h2
     simp only[if_true,QC2,QEh]at hB
     obtain⟨⟨hfz,hne⟩,hall⟩:=hB
     subst hfz
     refine⟨fun he=>(by rw[he]at hne;simp at hne),fun j hj=>?_⟩
     have hj2:=QDn.1 hall j hj
     simp only[QC2]at hj2
     obtain⟨hsp,hb,hSb⟩:=hfzz rfl
     obtain⟨oj,hoj,hah⟩:=Quy hj2.1
     have hmem:=QgF (Qe2 hah)
     obtain⟨hw,hrun⟩:=hsp j oj hmem hoj
     have hlen:=Qd4 (Qe2 hah)
     have hst:=Qeu (i:=j) hnd
     unfold wpOp
     simp only[hoj,hw,if_true]
     refine .inl ?_
     unfold Oper.wp
     rw[hrun w]
     refine⟨hT _ _ hTw (QcY w _),ih (fun n=>n=w.heap.size∨S n) true _ _ _ _ (by rw[QDp]at hlen;omega) hst.1 hj2.2 (hsep.sub (Qcd j _)) (fun _=>⟨?_,QDm hb (QcY w _).below.size,fun n hn=>by
      have hsz:(w.alloc (mk j).2).heap.size=w.heap.size+1:=by simp
      rw[hsz]
      rcases hn with rfl|hn
      ·omega
      ·have:=hSb n hn
       omega⟩) (hT _ _ hTw (QcY w _)) ?_⟩
     ·exact Specs.put (l:=(i,2) :: r) (fun k ok hk hok'=>hsp k ok (Qcd j _ _ hk) hok') (Qcd j _) hsep hmem hoj hst.2 hsel _
     ·exact QrT hoj hsel hb _ S a w _ hah (fun hx=>Nat.lt_irrefl _ (hSb _ hx)) h ⟨hw,hrun⟩ (QcY w _) (heap_alloc_new w _)
    ·rw[if_neg h2]at hB
     simp only[QC2,decide_eq_true_eq]at hB
     obtain⟨⟨hrd,h3⟩,hok⟩:=hB
     subst h3
     refine⟨fun he=>(by rw[hrd]at he;cases he),fun j hj=>?_⟩
     rw[hrd]at hj
     obtain rfl:j=i:=by simpa using hj
     have hri:j∈Region.ready .any ops listed:=by rw[hrd];simp
     have h':wpOp P ops Q j (fun a' w'=>T w'∧wpN P ops Q T base mk S false r a' w') a w:=by
      cases fz with
      | true=>exact h w (Later.refl w)
      | false=>exact h
     exact wpOp_mono (fun a' w' h'=>⟨h'.1,ih S false r _ a' w' hr' hnd'.2 hok (hsep.sub hsub) (fun hf=>by cases hf) h'.1 h'.2⟩) h'
end
section
variable {P:Program} {Q:Exit→Act→World→Prop}
def Qkz (P:Program) (l:List Oper) (Q:Exit→Act→World→Prop) (T:World→Prop):List Nat→Act→World→Prop
 | [],a,w=>Q .normal a w
 | i :: r,a,w=>wpList P l.toArray (Exit.then (fun a' w'=>T w'∧Qkz P l Q T r a' w') Q) (pick l [i]) a w
def QoG (P:Program) (l:List Oper) (Q:Exit→Act→World→Prop) (T:World→Prop) (base:Nat) (mk:Nat→(Nat→Value)×Obj) (ts:List Nat):(Nat→Prop)→List Nat→Act→World→Prop
 | _,[],a,w=>∀w1,Later w w1→Qkz P l Q T ts a w1
 | S,i :: r,a,w=>∀w1 g,Later w w1→base≤g→ ¬S g→w1.heap[g]?=some (mk i).2→QoG P l Q T base mk ts (fun n=>n=g∨S n) r (a.put ((l[i]?).bind (·.dst)) ((mk i).1 g)) w1
theorem QyR {l:List Oper} {T:World→Prop} {base:Nat} {mk:Nat→(Nat→Value)×Obj} {S:Nat→Prop}:∀(ts:List Nat),(ts.all fun i=>decide (i<l.length))=true→
 ∀a w,Qkz P l Q T ts a w→wpN P l.toArray Q T base mk S false (ts.map (·,3)) a w
 | [],_,a,w,h=>h
 | i :: ts,hb,a,w,h=>by
   simp only[QDZ,QC2,decide_eq_true_eq]at hb
   exact wpOp_mono (fun a' w' h'=>⟨h'.1,QyR ts hb.2 a' w' h'.2⟩) (Qcx hb.1 h)
theorem QyP {l:List Oper} {T:World→Prop} {base:Nat} {mk:Nat→(Nat→Value)×Obj} {ts:List Nat} (ht:(ts.all fun i=>decide (i<l.length))=true):∀(ms:List Nat),(ms.all fun i=>decide (i<l.length))=true→
 ∀S a w,QoG P l Q T base mk ts S ms a w→wpN P l.toArray Q T base mk S true (ms.map (·,2)++ts.map (·,3)) a w
 | [],_,S,a,w,h=>by
   cases ts with
   | nil=>exact h w (Later.refl w)
   | cons i ts=>
     intro w1 hl
     have:=QyR (P:=P) (Q:=Q) (T:=T) (base:=base) (mk:=mk) (S:=S) (i :: ts) ht a w1 (h w1 hl)
     exact this
 | i :: ms,hb,S,a,w,h=>by
   simp only[QDZ,QC2,decide_eq_true_eq]at hb
   have hi:l[i]?=some (l[i]'hb.1):=QCJ hb.1
   refine⟨l[i]'hb.1,by simp[hb.1],fun w1 g hl hg hS hh=>?_⟩
   have:=h w1 g hl hg hS hh
   rw[hi]at this
   exact QyP ht ms hb.2 _ _ w1 this
theorem Qte {l:List Oper} {T:World→Prop} {base:Nat} {mk:Nat→(Nat→Value)×Obj} {S:Nat→Prop} {Qa:Act→Prop} {r:List (Nat×Nat)} {w:World} (hQa:∀a,Qa a→wpN P l.toArray Q T base mk S true r a w):∀(qs:List Nat),(qs.all fun i=>decide (i<l.length))=true→
 ∀a,wpQuiet P l.toArray T Qa (pick l qs) a→wpN P l.toArray Q T base mk S true (qs.map (·,0)++r) a w
 | [],_,a,h=>hQa a h
 | i :: qs,hb,a,h=>by
   simp only[QDZ,QC2,decide_eq_true_eq]at hb
   have hi:l[i]?=some (l[i]'hb.1):=QCJ hb.1
   refine⟨l[i]'hb.1,by simp[hb.1],?_⟩
   simp only[pick,hi,QCG,QEt,wpQuiet]at h
   by_cases hw:Region.wanted (l[i]'hb.1) (yielded l.toArray a.tmps)=true
   ·rw[if_pos hw]at h ⊢
    exact Oper.quiet_mono (fun a' h'=>Qte hQa qs hb.2 a' h') h
   ·rw[if_neg hw]at h ⊢
    exact Qte hQa qs hb.2 _ h
def Qwe (l:List Oper) (qs ms ts:List Nat):Bool:=
 let f:=qs.map (·,0)++(ms.map (·,2)++ts.map (·,3))
 Region.noSelect l.toArray&&(qs.all fun i=>decide (i<l.length))&&(ms.all fun i=>decide (i<l.length))&&(ts.all fun i=>decide (i<l.length)) &&
 okN l.toArray f.length true f (QEe l.length false)&&sepB l f&&decide ((f.map (·.1)).Nodup)&&decide (f.length=l.length)
theorem QkN {qs ms ts:List Nat} {i:Nat} (h:(i,2)∈qs.map (·,0)++(ms.map (·,2)++ts.map (·,3))):i∈ms:=by
 simp only[QD3,QDs,Prod.mk.injEq]at h
 rcases h with ⟨x,_,_,h⟩|⟨x,hx,rfl,_⟩|⟨x,_,_,h⟩
 ·omega
 ·exact hx
 ·omega
theorem QhG {id:Nat} {a:Act} {w:World} {l:List Oper} (qs ms ts:List Nat) (mk:Nat→(Nat→Value)×Obj) (hm:P.follows .mixedOrders=true) (hB:Qwe l qs ms ts=true)
 (hQ1:∀c a d v w,Q (.panic c) (a.put d v) w→Q (.panic c) a w)
 (h:MakesAll P l mk a ms∧wpQuiet P l.toArray (Below w.heap.size w) (fun a'=>QoG P l Q (Below w.heap.size w) w.heap.size mk ts (fun _=>False) ms a' w.drew) (pick l qs) a):(Code.region id l.toArray true).wp P Q a w:=by
 simp only[Qwe,QC2,decide_eq_true_eq]at hB
 obtain⟨⟨⟨⟨⟨⟨⟨hs,hq⟩,hms⟩,ht⟩,hok⟩,hsep⟩,hnd⟩,hlen⟩:=hB
 refine wp_region_any hm (Qi3 (T:=Below w.heap.size w) _ _ _ _ ?_)
 have hTl:∀w1 w2,Below w.heap.size w w1→Later w1 w2→Below w.heap.size w w2:=fun w1 w2 h1 h2=>h1.trans (h2.below.mono h1.size)
 have h0:Below w.heap.size w w.drew:=(Below.refl _ _).drew
 have:=simN (P:=P) (Q:=Q) (T:=Below w.heap.size w) (base:=w.heap.size) (mk:=mk) (Region.noSelect_spec hs) hTl hQ1 _ (fun _=>False) true _ (QEe l.length false) a w.drew rfl hnd hok (QlX hsep)
  (fun _=>⟨fun i oi hi ho=>h.1.at_ i (QkN hi) oi (by simpa using ho),QCP _,fun _ h=>h.elim⟩) h0 (Qte (fun a h=>QyP ht ms hms _ a w.drew h) qs hq a h.2)
 rw[hlen]at this
 simpa using this
end
section
variable {P:Program} {ops:Array Oper} {Q:Exit→Act→World→Prop} {w0:World}
def QjE (ops:Array Oper) (ex ts:List Nat):Bool:=
 match ts with
 | []=>true
 | t :: r=>
   ((QDu ops.size).all fun i=>ts.contains i||ex.contains i||(QDu ops.size).any fun j=>(j==t||(!ts.contains j&& !ex.contains j&&decide (i<j)))&&Qho ops j i) &&
   (List.zip (t :: r) r).all fun (p,q)=>Qho ops q p
theorem QiG {ex:List Nat} {t:Nat} {r:List Nat} (hB:QjE ops ex (t :: r)=true) {listed:Array Bool} (hc:Closed ops listed):
 ∀(d i:Nat),ops.size-i=d→i<ops.size→(t :: r).contains i=false→ex.contains i=false→listed.getD i true=false→listed.getD t false=false∧t∉Region.ready .any ops listed:=by
 intro d
 induction d using Nat.strongRecOn with
 | _ d ih=>
   intro i hd hi hti hex hun
   simp only[QjE,QC2]at hB
   have h1:=QDn.1 hB.1 i (QEo.2 hi)
   rw[hti,hex,Bool.false_or,Bool.false_or]at h1
   obtain⟨j,hj,hj2⟩:=List.any_eq_true.1 h1
   simp only[QC2,QEH,beq_iff_eq,decide_eq_true_eq,QEh]at hj2
   obtain⟨hjt,hw⟩:=hj2
   obtain⟨oj,hoj,e,he,hb,hon⟩:=Qfu hw
   have hjl:listed.getD j false=false:=by
    cases hl:listed.getD j false with
    | false=>rfl
    | true=>
      have h2:=hc.2 j oj hoj hl e he hb
      rw[hon,QbI hun]at h2
      cases h2
   rcases hjt with hjt|⟨⟨hjt,hje⟩,hij⟩
   ·subst hjt
    refine⟨hjl,fun hr=>?_⟩
    obtain⟨_,o',ho',hall⟩:=mem_ready.1 hr
    have:o'=oj:=Option.some.inj (ho'.symm.trans hoj)
    subst this
    have h2:=hall e he hb
    rw[hon,QbI hun]at h2
    cases h2
   ·have hjs:j<ops.size:=QEo.1 hj
    exact ih (ops.size-j) (by omega) j rfl hjs hjt hje (Qg7 (by rw[hc.1];exact hjs) hjl)
theorem Qvf {ex ts:List Nat} (hT:QjE ops ex ts=true) {i:Nat} (hti:ts.contains i=false) (hex:ex.contains i=false) {listed:Array Bool} (hcl:Closed ops listed) (hr:i∈Region.ready .any ops listed)
 {j:Nat} (hj:j∈Region.ready .any ops listed):ts.contains j=false:=by
 obtain⟨hiun,oi,hi,_⟩:=mem_ready.1 hr
 cases htj:ts.contains j with
 | false=>rfl
 | true=>
   cases ts with
   | nil=>simp at htj
   | cons t r=>
     have hin:i<ops.size:=(Array.getElem?_eq_some_iff.1 hi).1
     obtain⟨h3,h4⟩:=QiG hT hcl _ i rfl hin hti hex hiun
     simp only[QjE,QC2]at hT
     exact absurd hj (QdD hcl r t hT.2 h3 h4 j (by simpa using htj))
def SE (ex:List Nat) (i:Nat) (w:World):World→Prop:=if ex.contains i then fun _=>True else Later w
def QfC (P:Program) (ops:Array Oper) (Q:Exit→Act→World→Prop) (ex:List Nat) (tl:Nat→Bool):List (Nat×Bool)→Act→World→Prop
 | [],a,w=>Q .normal a w
 | (i,true) :: r,a,w=>∃o,ops[i]?=some o∧if Region.wanted o (yielded ops a.tmps) then o.quiet P a (SE ex i w) (fun a'=>QfC P ops Q ex tl r a' w) else QfC P ops Q ex tl r (a.put o.dst undef) w
 | (i,false) :: r,a,w=>wpOp P ops Q i (fun a' w'=>(tl i=false→Later w w')∧QfC P ops Q ex tl r a' w') a w
theorem Qd6 {ex ts:List Nat} (hT:QjE ops ex ts=true) (hs:Region.noSelect ops=true) (hQ:∀c a d v w,Q (.panic c) (a.put d v) w→Q (.panic c) a w):
 ∀(l:List (Nat×Bool)) (listed:Array Bool) (a:Act) (w:World),Closed ops listed→seqB ops ts.contains l listed=true→
  QfC P ops Q ex ts.contains l a w→Qdl P ops Q ts.contains l.length listed a w
 | [],_,_,_,_,hB,h=>⟨by simpa [seqB] using hB,h⟩
 | (i,true) :: r,listed,a,w,hcl,hB,h=>by
   simp only[seqB,QC2]at hB
   obtain⟨⟨⟨⟨hr,hf⟩,hcm⟩,htl⟩,hB'⟩:=hB
   obtain⟨o,ho,h⟩:=h
   have hr':i∈Region.ready .any ops listed:=by simpa using hr
   have hcm':calm o=true:=by simpa [ho] using hcm
   have htl':ts.contains i=false:=by simpa using htl
   have next:∀v,YieldsIf P ops (SE ex i w) o v a→QfC P ops Q ex ts.contains r (a.put o.dst v) w→Qdl P ops Q ts.contains (r.length+1) listed a w:=fun v hy hn=>by
    have hn':=Qd6 hT hs hQ r _ _ w (hcl.set hr') hB' hn
    unfold SE at hy
    cases hex:ex.contains i with
    | true=>
      rw[hex]at hy
      exact QdS (S:=fun _=>True) ho (Region.noSelect_spec hs) (fun c a w=>hQ c a _ _ w) (fun _ _ _ _ _ _ _ _ _ _=>trivial) _ listed a w hcl (Region.free_spec ho hf) hr' hy trivial hn'
    | false=>
      rw[hex]at hy
      exact QdS (S:=Later w) ho (Region.noSelect_spec hs) (fun c a w=>hQ c a _ _ w) (fun listed j w w' hcl hr hj _ h hS=>hS.trans (h (Qvf hT htl' hex hcl hr hj))) _ listed a w hcl (Region.free_spec ho hf) hr' hy (Later.refl _) hn'
   by_cases hw:Region.wanted o (yielded ops a.tmps)=true
   ·rw[if_pos hw]at h
    obtain⟨v,hy,hn⟩:=QcM hcm' hw h
    exact next v hy hn
   ·rw[if_neg hw]at h
    exact next undef (.inr ⟨by simpa using hw,rfl⟩) h
 | (i,false) :: r,listed,a,w,hcl,hB,h=>by
   simp only[seqB,QC2,decide_eq_true_eq]at hB
   obtain⟨hr,hB'⟩:=hB
   refine⟨fun h0=>(by rw[hr]at h0;cases h0),fun j hj=>?_⟩
   rw[hr]at hj
   obtain rfl:j=i:=by simpa using hj
   exact wpOp_mono (fun a' w' h3=>⟨h3.1,Qd6 hT hs hQ r _ a' w' (hcl.set (by rw[hr];simp)) hB' h3.2⟩) h
theorem Qck {l:List Oper} {ex:List Nat} {S:World→Prop} {Qa:Act→Prop} {r:List (Nat×Bool)} {tl:Nat→Bool} {w:World} (hQa:∀a,Qa a→QfC P l.toArray Q ex tl r a w):∀(qs:List Nat),(qs.all fun i=>decide (i<l.length))=true→(∀ i∈qs,SE ex i w=S)→
 ∀a,wpQuiet P l.toArray S Qa (pick l qs) a→QfC P l.toArray Q ex tl (qs.map (·,true)++r) a w
 | [],_,_,a,h=>hQa a h
 | i :: qs,hb,hS,a,h=>by
   simp only[QDZ,QC2,decide_eq_true_eq]at hb
   have hi:l[i]?=some (l[i]'hb.1):=QCJ hb.1
   have hS':∀j∈qs,SE ex j w=S:=fun j hj=>hS j (QEy _ hj)
   refine⟨l[i]'hb.1,by simp[hb.1],?_⟩
   simp only[pick,hi,QCG,QEt,wpQuiet]at h
   rw[hS i (by simp)]
   by_cases hw:Region.wanted (l[i]'hb.1) (yielded l.toArray a.tmps)=true
   ·rw[if_pos hw]at h ⊢
    exact Oper.quiet_mono (fun a' h'=>Qck hQa qs hb.2 hS' a' h') h
   ·rw[if_neg hw]at h ⊢
    exact Qck hQa qs hb.2 hS' _ h
theorem QkU {l:List Oper} {ex:List Nat} {tl:Nat→Bool}:∀(ts:List Nat),(ts.all fun i=>decide (i<l.length)&&tl i)=true→∀a w,wpList P l.toArray Q (pick l ts) a w→QfC P l.toArray Q ex tl (ts.map (·,false)) a w:=by
 intro ts ht a w h
 have:∀(s:List (Nat×Bool)),(∀ p∈s,p.2=false)→∀a w,QhQ P l.toArray Q tl s a w→QfC P l.toArray Q ex tl s a w:=by
  intro s
  induction s with
  | nil=>intro _ a w h;exact h
  | cons p s ih=>
    obtain⟨i,b⟩:=p
    intro hp a w h
    have hb:b=false:=hp (i,b) (QEJ)
    subst hb
    exact wpOp_mono (fun a' w' h'=>⟨h'.1,ih (fun q hq=>hp q (QEy _ hq)) a' w' h'.2⟩) h
 exact this _ (fun p hp=>by obtain⟨i,_,rfl⟩:=QDs.1 hp;rfl) a w (QfJ ts ht a w h)
def Qgd (P:Program) (l:List Oper) (Q:Exit→Act→World→Prop) (ps qs ts:List Nat):List (List Nat×List Nat×Nat)→Act→World→Prop
 | [],a,w=>wpQuiet P l.toArray (fun _=>True) (wpQuiet P l.toArray (fun w'=>∃x,w'=grow w x) (fun a'=>wpList P l.toArray Q (pick l ts) a' w) (pick l qs)) (pick l ps) a
 | (p,q,i) :: r,a,w=>wpQuiet P l.toArray (fun _=>True) (wpQuiet P l.toArray (fun w'=>∃x,w'=grow w x) (fun a'=>wpList P l.toArray (Exit.then (fun a'' w''=>Later w w''∧Qgd P l Q ps qs ts r a'' w'') Q) (pick l [i]) a' w) (pick l q)) (pick l p) a
def Qsb (ps qs ts:List Nat):List (List Nat×List Nat×Nat)→List (Nat×Bool)
 | []=>ps.map (·,true)++(qs.map (·,true)++ts.map (·,false))
 | (p,q,i) :: r=>p.map (·,true)++(q.map (·,true)++(i,false) :: Qsb ps qs ts r)
def exOf (ps:List Nat) (segs:List (List Nat×List Nat×Nat)):List Nat:=ps++segs.flatMap (·.1)
def QgU (l:List Oper) (ex q:List Nat):Bool:=q.all fun i=>decide (i<l.length)&& !ex.contains i
def QjP (l:List Oper) (ex p:List Nat):Bool:=p.all fun i=>decide (i<l.length)&&ex.contains i
def Qqw (l:List Oper) (ps qs ts:List Nat) (segs:List (List Nat×List Nat×Nat)):Bool:=
 Region.noSelect l.toArray&&QjE l.toArray (exOf ps segs) ts&&(QjP l (exOf ps segs) ps&&QgU l (exOf ps segs) qs)&&(ts.all fun i=>decide (i<l.length)&&ts.contains i) &&
 (segs.all fun s=>decide (s.2.2<l.length)&&(QjP l (exOf ps segs) s.1&&QgU l (exOf ps segs) s.2.1)) &&
 seqB l.toArray ts.contains (Qsb ps qs ts segs) (QEe l.length false)&&decide ((Qsb ps qs ts segs).length=l.length)
theorem Qep {l:List Oper} {ex p:List Nat} (h:QjP l ex p=true) (w:World):(p.all fun i=>decide (i<l.length))=true∧∀i∈p,SE ex i w=fun _=>True:=by
 unfold QjP at h
 refine⟨QDn.2 fun i hi=>?_,fun i hi=>?_⟩
 all_goals
  have:=QDn.1 h i hi
  simp only[QC2]at this
 ·exact this.1
 ·unfold SE
  rw[if_pos this.2]
theorem QdT {l:List Oper} {ex q:List Nat} (h:QgU l ex q=true) (w:World):(q.all fun i=>decide (i<l.length))=true∧∀i∈q,SE ex i w=Later w:=by
 unfold QgU at h
 refine⟨QDn.2 fun i hi=>?_,fun i hi=>?_⟩
 all_goals
  have:=QDn.1 h i hi
  simp only[QC2,QEh]at this
 ·exact this.1
 ·unfold SE
  rw[if_neg (by rw[this.2];simp)]
theorem Qgs {l:List Oper} {ex ps qs ts:List Nat} (hp:QjP l ex ps=true) (hq:QgU l ex qs=true) (ht:(ts.all fun i=>decide (i<l.length)&&ts.contains i)=true):
 ∀(segs:List (List Nat×List Nat×Nat)),(segs.all fun s=>decide (s.2.2<l.length)&&(QjP l ex s.1&&QgU l ex s.2.1))=true→∀a w,Qgd P l Q ps qs ts segs a w→QfC P l.toArray Q ex ts.contains (Qsb ps qs ts segs) a w
 | [],_,a,w,h=>Qck (fun a h=>Qck (fun a h=>QkU ts ht a w h) qs (QdT hq w).1 (QdT hq w).2 a h) ps (Qep hp w).1 (Qep hp w).2 a h
 | (p,q,i) :: r,hb,a,w,h=>by
   simp only[QDZ,QC2,decide_eq_true_eq]at hb
   obtain⟨⟨hi,hp1,hq1⟩,hb2⟩:=hb
   refine Qck (fun a h=>Qck (fun a h=>?_) q (QdT hq1 w).1 (QdT hq1 w).2 a h) p (Qep hp1 w).1 (Qep hp1 w).2 a h
   exact wpOp_mono (fun a' w' h'=>⟨fun _=>h'.1,Qgs hp hq ht r hb2 a' w' h'.2⟩) (Qcx hi h)
theorem Qhm {id:Nat} {a:Act} {w:World} {l:List Oper} (segs:List (List Nat×List Nat×Nat)) (ps qs ts:List Nat) (hm:P.follows .mixedOrders=true) (hB:Qqw l ps qs ts segs=true)
 (hQ:∀c a d v w,Q (.panic c) (a.put d v) w→Q (.panic c) a w) (h:Qgd P l Q ps qs ts segs a w.drew):(Code.region id l.toArray true).wp P Q a w:=by
 simp only[Qqw,QC2,decide_eq_true_eq]at hB
 obtain⟨⟨⟨⟨⟨⟨hs,hT⟩,hp,hq⟩,ht⟩,hsg⟩,hsq⟩,hlen⟩:=hB
 refine wp_region_any hm (Qfm (tl:=ts.contains) _ _ _ _ ?_)
 have:=Qd6 hT hs hQ (Qsb ps qs ts segs) (QEe l.length false) a w.drew (Qfc l) hsq (Qgs hp hq ht segs hsg a _ h)
 rw[hlen]at this
 simpa using this
end
section
variable {P:Program} {ops:Array Oper} {Q:Exit→Act→World→Prop} {Rel:Nat→World→World→Prop}
def QjJ (P:Program) (ops:Array Oper) (Q:Exit→Act→World→Prop) (Rel:Nat→World→World→Prop):Nat→Array Bool→Act→World→Prop
 | 0,listed,a,w=>Region.ready .any ops listed=[]∧Q .normal a w
 | fuel+1,listed,a,w=>
   (Region.ready .any ops listed=[]→Q .normal a w)∧
   ∀i∈Region.ready .any ops listed,wpOp P ops Q i (fun a' w'=>Rel i w w'∧QjJ P ops Q Rel fuel (listed.setIfInBounds i true) a' w') a w
theorem Qjv:∀(fuel:Nat) (listed:Array Bool) (a:Act) (w:World),QjJ P ops Q Rel fuel listed a w→wpAny P .any ops Q fuel listed a w
 | 0,_,_,_,h=>h
 | fuel+1,_,_,_,h=>⟨h.1,fun i hi=>wpOp_mono (fun a' w' h'=>Qjv fuel _ a' w' h'.2) (h.2 i hi)⟩
theorem Qk0 {S:World→Prop} {i:Nat} {oi:Oper} {v:Value} (hi:ops[i]?=some oi) (hsel:∀(j:Nat) (o:Oper) cs b,ops[j]?=some o→o.op≠ .select cs b)
 (hQ:∀c a w,Q (.panic c) (a.put oi.dst v) w→Q (.panic c) a w) (hRi:∀w,Rel i w w)
 (hSt:∀(listed:Array Bool) (j:Nat) (w w':World),i∈Region.ready .any ops listed→j∈Region.ready .any ops listed→j≠i→Rel j w w'→S w→S w'):
 ∀(fuel:Nat) (listed:Array Bool) (a:Act) (w:World),
  (∀ j oj,ops[j]?=some oj→j≠i→listed.getD j true=false→(∀ e∈oj.after,Region.binds .any e=true→e.on≠i)→oi.apart ops oj=true)→
  i∈Region.ready .any ops listed→YieldsIf P ops S oi v a→S w→
  QjJ P ops Q Rel fuel (listed.setIfInBounds i true) (a.put oi.dst v) w→QjJ P ops Q Rel (fuel+1) listed a w:=by
 intro fuel
 induction fuel with
 | zero=>
   intro listed a w _ hr hy hS H
   refine⟨fun h=>(by rw[h]at hr;cases hr),fun j hj=>?_⟩
   by_cases hji:j=i
   ·subst hji;exact hy.wpOp hi hS ⟨hRi w,H⟩
   ·have:=ready_mono hj hji
    rw[H.1]at this
    cases this
 | succ fuel ih=>
   intro listed a w hfree hr hy hS H
   refine⟨fun h=>(by rw[h]at hr;cases hr),fun j hj=>?_⟩
   by_cases hji:j=i
   ·subst hji;exact hy.wpOp hi hS ⟨hRi w,H⟩
   ·have h1:=H.2 j (ready_mono hj hji)
    obtain⟨hjun,oj,hoj,hall⟩:=mem_ready.1 hj
    have hiun:=(mem_ready.1 hr).1
    have hnot:∀e∈oj.after,Region.binds .any e=true→e.on≠i:=fun e he hb heq=>by
     have h1:=hall e he hb
     rw[heq,QbI hiun]at h1
     cases h1
    have h2:=wpOp_putIf hoj (hfree j oj hoj hji hjun hnot) (fun cs b=>hsel i oi cs b hi) (fun cs b=>hsel j oj cs b hoj) hQ hy h1
    have hfree':∀k ok,ops[k]?=some ok→k≠i→(listed.setIfInBounds j true).getD k true=false→
     (∀ e∈ok.after,Region.binds .any e=true→e.on≠i)→oi.apart ops ok=true:=fun k ok hk hki hun hno=>by
     refine hfree k ok hk hki ?_ hno
     by_cases hjk:j=k
     ·subst hjk;exact hjun
     ·rw[getD_set_ne true hjk]at hun;exact hun
    refine wpOp_mono (fun a' w' h3=>⟨h3.2.1,ih (listed.setIfInBounds j true) a' w' hfree' (ready_mono hr (Ne.symm hji)) h3.1 (hSt listed j w w' hr hj hji h3.2.1 hS) ?_⟩) h2
    rw[Array.setIfInBounds_comm _ _ hji]
    exact h3.2.2
end
def Spared (w:World) (bad:List Nat) (w':World):Prop:=w.heap.size≤w'.heap.size∧∀b,b<w.heap.size→(∀ g∈bad,b≠g)→w'.heap[b]?=w.heap[b]?
theorem Spared.refl (w:World) (bad:List Nat):Spared w bad w.drew:=⟨QCP _,fun _ _ _=>rfl⟩
theorem Spared.only {w w1 w2:World} {bad:List Nat} {g:Nat} (h:Spared w bad w1) (ho:Only g w1 w2) (hg:g∈bad):Spared w bad w2:=
 ⟨QDm h.1 ho.size,fun b hb hn=>(ho.block b (QCX hb h.1) (fun e=>hn g hg (by injection e))).trans (h.2 b hb hn)⟩
theorem Spared.blk {w w':World} {bad:List Nat} {g:Nat} {t:TypeId} {l:List Value} (h:Spared w bad w') (hb:Blk w g t l) (hn:∀b∈bad,g≠b):Blk w' g t l:=(h.2 g hb.lt hn).trans hb
section
variable {P:Program} {Q:Exit→Act→World→Prop}
def Qf2 (P:Program) (l:List Oper) (Q:Exit→Act→World→Prop) (g:Nat→Nat):List Nat→Act→World→Prop
 | [],a,w=>Q .normal a w
 | i :: r,a,w=>wpList P l.toArray (Exit.then (fun a' w'=>Only (g i) w w'∧Qf2 P l Q g r a' w') Q) (pick l [i]) a w
def Qij (P:Program) (l:List Oper) (Q:Exit→Act→World→Prop) (w0:World) (g:Nat→Nat) (ahead:Nat→List Nat) (ts:List Nat):List Nat→Act→Prop
 | [],a=>Qf2 P l Q g ts a w0.drew
 | i :: r,a=>∃o,l[i]?=some o∧Region.wanted o (yielded l.toArray a.tmps)=true∧o.quiet P a (Spared w0 ((ahead i).map g)) (fun a'=>Qij P l Q w0 g ahead ts r a')
def okLt (ops:Array Oper):List Nat→Array Bool→Bool
 | i :: r,listed=>decide (Region.ready .any ops listed=[i])&&okLt ops r (listed.setIfInBounds i true)
 | [],listed=>(Region.ready .any ops listed).isEmpty
def okL (ops:Array Oper) (ts:List Nat):List Nat→Array Bool→Bool
 | i :: r,listed=>(Region.ready .any ops listed).contains i&&Region.free .any ops listed i&&((ops[i]?).map calm).getD false&&okL ops ts r (listed.setIfInBounds i true)
 | [],listed=>okLt ops ts listed
def QyT (l:List Oper) (qs ts:List Nat) (ahead:Nat→List Nat):Bool:=
 Region.noSelect l.toArray&&(qs.all fun i=>decide (i<l.length)&&ts.all fun j=>Qho l.toArray j i||(ahead i).contains j)&&(ts.all fun i=>decide (i<l.length)&& !qs.contains i) &&
 ((QDu l.length).all fun i=>qs.contains i||ts.contains i)&&okL l.toArray ts qs (QEe l.length false)&&decide (qs.length+ts.length=l.length)
theorem QkX {l:List Oper} {g:Nat→Nat} {qs0:List Nat}:∀(ts:List Nat),(ts.all fun i=>decide (i<l.length)&& !qs0.contains i)=true→∀(listed:Array Bool) (a:Act) (w:World),okLt l.toArray ts listed=true→Qf2 P l Q g ts a w→
 QjJ P l.toArray Q (fun j w w'=>if qs0.contains j then w'=w else Only (g j) w w') ts.length listed a w
 | [],_,listed,a,w,hB,h=>by
   unfold okLt at hB
   exact⟨by simpa using hB,h⟩
 | i :: r,hb,listed,a,w,hB,h=>by
   simp only[QDZ,QC2,decide_eq_true_eq,QEh]at hb
   unfold okLt at hB
   simp only[QC2,decide_eq_true_eq]at hB
   refine⟨fun he=>(by rw[hB.1]at he;cases he),fun j hj=>?_⟩
   rw[hB.1]at hj
   obtain rfl:j=i:=by simpa using hj
   refine wpOp_mono (fun a' w' h'=>⟨?_,QkX r (by simpa using hb.2) _ a' w' hB.2 h'.2⟩) (Qcx hb.1.1 h)
   simp only[hb.1.2]
   exact h'.1
theorem Qjw {l:List Oper} {g:Nat→Nat} {ahead:Nat→List Nat} {qs0 ts:List Nat} {w0:World} (hs:Region.noSelect l.toArray=true) (hQ1:∀c a d v w,Q (.panic c) (a.put d v) w→Q (.panic c) a w)
 (ht:(ts.all fun i=>decide (i<l.length)&& !qs0.contains i)=true) (hall:((QDu l.length).all fun i=>qs0.contains i||ts.contains i)=true)
 (hq:∀i∈qs0,i<l.length∧∀j∈ts,Qho l.toArray j i=true∨j∈ahead i):
 ∀(qs:List Nat),(∀ i∈qs,i∈qs0)→∀(listed:Array Bool) (a:Act),okL l.toArray ts qs listed=true→Qij P l Q w0 g ahead ts qs a→
  QjJ P l.toArray Q (fun j w w'=>if qs0.contains j then w'=w else Only (g j) w w') (qs.length+ts.length) listed a w0.drew
 | [],_,listed,a,hB,h=>by
   rw[List.length_nil,QC4]
   exact QkX ts ht listed a _ hB h
 | i :: r,hsub,listed,a,hB,h=>by
   unfold okL at hB
   simp only[QC2]at hB
   obtain⟨⟨⟨hrd,hf⟩,hcm⟩,hok⟩:=hB
   obtain⟨o,ho,hw,hquiet⟩:=h
   have ho':l.toArray[i]?=some o:=by simpa using ho
   have hri:i∈Region.ready .any l.toArray listed:=by simpa using hrd
   have hcm':calm o=true:=by simpa [ho] using hcm
   have hi0:=hsub i (by simp)
   obtain⟨v,hy,hn⟩:=QcM hcm' hw hquiet
   have e:(i :: r).length+ts.length=(r.length+ts.length)+1:=by simp;omega
   rw[e]
   refine Qk0 (S:=Spared w0 ((ahead i).map g)) ho' (Region.noSelect_spec hs) (fun c a w=>hQ1 c a _ _ w) (fun w=>?_) ?_ _ listed a w0.drew (Region.free_spec ho' hf) hri hy (Spared.refl _ _)
    (Qjw hs hQ1 ht hall hq r (fun k hk=>hsub k (by simp[hk])) _ _ hok hn)
   ·simp[hi0]
   ·intro listed' j w w' hir hjr hji hrel hS
    by_cases hj:qs0.contains j=true
    ·rw[if_pos hj]at hrel
     subst hrel
     exact hS
    ·rw[if_neg hj]at hrel
     obtain⟨_,oj,hoj,hwt⟩:=mem_ready.1 hjr
     have hjl:j<l.length:=by simpa using (Array.getElem?_eq_some_iff.1 hoj).1
     have hjt:j∈ts:=by
      have:=QDn.1 hall j (QEo.2 hjl)
      simp only[QEH]at this
      rcases this with h1|h1
      ·exact absurd h1 hj
      ·simpa using h1
     refine hS.only hrel ?_
     rcases (hq i hi0).2 j hjt with h1|h1
     ·obtain⟨ok,hok',e,he,hb,hon⟩:=Qfu h1
      have:ok=oj:=Option.some.inj (hok'.symm.trans hoj)
      subst this
      have h2:=hwt e he hb
      have h3:=(mem_ready.1 hir).1
      rw[hon,QbI h3]at h2
      cases h2
     ·exact QDs.2 ⟨j,h1,rfl⟩
theorem Qc4 {id:Nat} {a:Act} {w:World} {l:List Oper} (qs ts:List Nat) (ahead:Nat→List Nat) (g:Nat→Nat) (hm:P.follows .mixedOrders=true) (hB:QyT l qs ts ahead=true)
 (hQ1:∀c a d v w,Q (.panic c) (a.put d v) w→Q (.panic c) a w) (h:Qij P l Q w g ahead ts qs a):(Code.region id l.toArray true).wp P Q a w:=by
 simp only[QyT,QC2,decide_eq_true_eq]at hB
 obtain⟨⟨⟨⟨⟨hs,hq⟩,ht⟩,hall⟩,hok⟩,hlen⟩:=hB
 refine wp_region_any hm (Qjv (Rel:=fun j w w'=>if qs.contains j then w'=w else Only (g j) w w') _ _ _ _ ?_)
 have:=Qjw (P:=P) (Q:=Q) (g:=g) (ahead:=ahead) (qs0:=qs) (ts:=ts) (w0:=w) hs hQ1 ht hall (fun i hi=>by
  have h1:=QDn.1 hq i hi
  simp only[QC2,decide_eq_true_eq]at h1
  refine⟨h1.1,fun j hj=>?_⟩
  have h2:=QDn.1 h1.2 j hj
  simpa using h2) qs (fun _ h=>h) (QEe l.length false) a hok h
 rw[hlen]at this
 simpa using this
end
end Go.Proofs.YticcbmhcgmhohaaGreat
namespace Go.Proofs.YticcbmhcgmhohaaGreat
open Go.BigFrame
open Go.RowKit
section
variable {P:Program} {ops:Array Oper} {Q:Exit→Act→World→Prop}
inductive Anc (ops:Array Oper):Nat→Nat→Prop
 | one {t i:Nat}:Qho ops t i=true→Anc ops t i
 | step {t j i:Nat}:Qho ops t j=true→Anc ops j i→Anc ops t i
end
end Go.Proofs.YticcbmhcgmhohaaGreat
