/-
  Lemmas for the last text of this claim (part 19 of 20).
-/
import Derived.ArgAppend
import Derived.BigQuiet
import Derived.BigRegion
import Derived.ChangeOld
import Derived.Deep.RegionWith
import Derived.DeepKeys4
import Derived.JoinedCond
import Derived.LaidMore
import Derived.Laws.CopyOwn
import Derived.Laws.Externs
import Derived.Laws.IdiomStrings
import Derived.Laws.Tables
import Derived.Lib.AppendStr
import Derived.Lib.AppendZerosOnto
import Derived.Lib.Mul64
import Derived.Lib.SlBytesConst
import Derived.LoopN
import Derived.Maps.OwnSet
import Derived.OpenShut
import Derived.OrdersHeld
import Derived.ProofKit
import Derived.Shelf.Spec.BitsCarry
import Derived.ShutString
import Derived.Test.YtdkpcdgckgaklaaGreatProg
import Derived.Test.YtdkpcdgckgaklaaGreatRows
import Derived.WalkKit
import Derived.WalkLawsBesides
import Derived.WalkSpells
import Derived.Test.YtdkpcdgckgaklaaGreatPI
import Derived.Test.YtdkpcdgckgaklaaGreatPQ
import Derived.Test.YtdkpcdgckgaklaaGreatPR
open List renaming replicate → QCn, getElem?_cons_succ → QCo, getElem?_cons_zero → QCp, cons_append → QCr, nil_append → QCs, getD_eq_getElem?_getD → QCu, getElem?_eq_getElem → QCv, setIfInBounds_toArray → QCw, set_cons_zero → QCy, set_cons_succ → QCz, map_toArray → QCA, length_append → QCB, map_nil → QCC, getElem?_append_left → QCD, take_of_length_le → QCE, getElem?_append_right → QCF, length_replicate → QCJ, getElem?_eq_some_iff → QCK, append_assoc → QCL, length_take → QCP, mem_cons → QCQ, map_cons → QCR, not_mem_nil → QCT, set_append_right → QCX, take_succ_eq_append_getElem → QCY, length_set → QCZ, eq_nil_of_length_eq_zero → QC0, append_nil → QC1, drop_of_length_le → QDf, drop_left' → QDg, flatMap_cons → QDi, getElem_mem → QDn, drop_eq_getElem_cons → QDp, getElem?_take → QDt, set_append_left → QDD, flatMap_append → QDZ, take_left' → QD9, length_singleton → QEd, drop_append → QEh, take_zero → QEm, flatMap_nil → QEu
open Nat renaming le_refl → QCx, zero_add → QCI, eq_zero_or_pos → QD6, sub_self → QEB
open Option renaming toList_some → QCq
set_option linter.all false
namespace Go.Proofs.YtdkpcdgckgaklaaGreat
open Go.RowKit
open Go.BigFrame
def swp {α:Type} (d:α) (l:List α) (j:Nat):List α:=(l.set (j+1) (l.getD j d)).set j (l.getD (j+1) d)
def sink {α:Type} (key:α→Int) (d:α) (l:List α):Nat→List α
 | 0=>l
 | j+1=>if key (l.getD (j+1) d)<key (l.getD j d) then sink key d (swp d l j) j else l
def srt {α:Type} (key:α→Int) (d:α) (l:List α):Nat→List α
 | 0=>l
 | k+1=>sink key d (srt key d l k) (k+1)
section
variable {α:Type} {key:α→Int} {d:α} {l:List α}
theorem QfE (j:Nat):(swp d l j).length=l.length:=by rw[swp,QCZ,QCZ]
theorem QwH {j:Nat} (hj:j+1<l.length):∀x∈swp d l j,x∈l:=by
 intro x hx
 have g:∀i,i<l.length→l.getD i d∈l:=fun i hi=>by
  rw[QCu,QCv hi]
  exact QDn _
 rcases List.mem_or_eq_of_mem_set hx with hx|rfl
 ·rcases List.mem_or_eq_of_mem_set hx with hx|rfl
  ·exact hx
  ·exact g j (by omega)
 ·exact g (j+1) hj
theorem Qix:∀(j:Nat) (l:List α),(sink key d l j).length=l.length
 | 0,_=>rfl
 | j+1,l=>by
   rw[sink]
   split
   ·rw[Qix j,QfE]
   ·rfl
theorem QoP:∀(j:Nat) (l:List α),j<l.length→∀x∈sink key d l j,x∈l
 | 0,_,_,x,hx=>hx
 | j+1,l,hj,x,hx=>by
   rw[sink]at hx
   split at hx
   ·exact QwH hj x (QoP j _ (by rw[QfE];omega) x hx)
   ·exact hx
theorem Qc6:∀k:Nat,(srt key d l k).length=l.length
 | 0=>rfl
 | k+1=>by rw[srt,Qix,Qc6 k]
theorem Qnj:∀k:Nat,k<l.length→∀x∈srt key d l k,x∈l
 | 0,_,x,hx=>hx
 | k+1,h,x,hx=>Qnj k (by omega) x (QoP (k+1) _ (by rw[Qc6];exact h) x hx)
theorem Qu7 (x:α) (l:List α) (j:Nat):swp d (x :: l) (j+1)=x :: swp d l j:=by simp[swp]
theorem QnR:∀(j:Nat) (l:List α),j+1<l.length→(swp d l j).Perm l
 | _,[],h=>by simp at h
 | _,[_],h=>by simp at h
 | 0,a :: b :: t,_=>List.Perm.swap a b t
 | j+1,x :: y :: l,h=>by
   rw[Qu7]
   exact (QnR j (y :: l) (by simpa using h)).cons x
theorem QlB:∀(j:Nat) (l:List α),j<l.length→(sink key d l j).Perm l
 | 0,_,_=>List.Perm.refl _
 | j+1,l,hj=>by
   rw[sink]
   split
   ·exact (QlB j _ (by rw[QfE];omega)).trans (QnR j l hj)
   ·exact List.Perm.refl _
theorem QoH:∀k:Nat,k<l.length→(srt key d l k).Perm l
 | 0,_=>List.Perm.refl _
 | k+1,h=>(QlB (k+1) _ (by rw[Qc6];exact h)).trans (QoH k (by omega))
theorem QgQ {j:Nat} (h: ¬key (l.getD (j+1) d)<key (l.getD j d)):sink key d l (j+1)=l:=by rw[sink,if_neg h]
theorem Qgm {j:Nat} (h:key (l.getD (j+1) d)<key (l.getD j d)):sink key d l (j+1)=sink key d (swp d l j) j:=by rw[sink,if_pos h]
end
def awK (x:Arw):Int:=x.ar.tk
def cmpI (a b:Int):Int:=if a<b then -1 else if b<a then 1 else 0
theorem Qt3 (a b:Int):decide (cmpI a b<0)=decide (a<b):=by
 unfold cmpI
 split
 ·simp_all
 ·split<;>simp_all
theorem Qrb (x:Arw):(ArC x)[7]?=some (.int .i64 x.ar.tk):=rfl
theorem Qwh (qs:List Arw) (rest:List Value) {j:Nat} (hj:j<qs.length):∀i v,(ArC (qs.getD j aw0))[i]?=some v→(qs.flatMap ArC++rest)[j*24+i]?=some v:=by
 intro i v hv
 have h:=Qfg QaK aw0 qs j hj hv
 rw[QCD (QCK.1 h).1]
 exact h
theorem Qum (x y:Arw) (w:World):Calls Tryz.prog 14 #[.agg (ArC x).toArray,.agg (ArC y).toArray] w fun e w'=>e= .returned (.int .i64 (cmpI x.ar.tk y.ar.tk))∧Later w w':=by
 have C1:=Qa8 w 37 (ArC x)
 have C2:Bag w ((w.alloc (.cells (ArC x).toArray 37)).alloc (.cells (ArC y).toArray 37)) [(w.heap.size+1,37,ArC y),(w.heap.size,37,ArC x)]:=
  C1.add (Qaa _ _) (by simp) (by omega) (Blk.new' _ _ (ArC y) (by simp))
 have a1:=(C2.nth 1 rfl).cellD 7 (Qrb x)
 have a2:=(C2.nth 0 rfl).cellD 7 (Qrb y)
 have hv:cmpI x.ar.tk y.ar.tk=if x.ar.tk<y.ar.tk then -1 else if y.ar.tk<x.ar.tk then 1 else 0:=rfl
 by_cases h1:x.ar.tk<y.ar.tk
 ·have f1:decide (x.ar.tk<y.ar.tk)=true:=decide_eq_true h1
  rw[if_pos h1]at hv
  replace hv:=hid hv
  go_enter Tryz.func14,Tryz.ntmps14
  go_wp2_with fail
  go_ret
  exact⟨by rw[hv.out];rfl,C2.lat⟩
 ·have f1:decide (x.ar.tk<y.ar.tk)=false:=decide_eq_false h1
  rw[if_neg h1]at hv
  by_cases h2:y.ar.tk<x.ar.tk
  ·have f2:decide (y.ar.tk<x.ar.tk)=true:=decide_eq_true h2
   rw[if_pos h2]at hv
   replace hv:=hid hv
   go_enter Tryz.func14,Tryz.ntmps14
   go_wp2_with fail
   go_ret
   exact⟨by rw[hv.out];rfl,C2.lat⟩
  ·have f2:decide (y.ar.tk<x.ar.tk)=false:=decide_eq_false h2
   rw[if_neg h2]at hv
   replace hv:=hid hv
   go_enter Tryz.func14,Tryz.ntmps14
   go_wp2_with fail
   go_ret
   exact⟨by rw[hv.out];rfl,C2.lat⟩
theorem QoZ {P:Program} {C:World→Prop} {a:Act} {o:Oper} {K:Act→Prop} {t t':TypeId} (x y:Operand) (ho:o.op= .binOp .sub t x y t') (v:Value) (hv:∀w,(binOp .sub t (a.eval x) (a.eval y)).run P w= .ok v w)
 (h:K (a.put o.dst v)):o.quiet P a C K:=
 ⟨v,fun w _=>by
   unfold Oper.quietAt execOp
   simp[ho,hv,eqGuard]
   exact⟨rfl,rfl⟩,h⟩
set_option maxRecDepth 100000 in
set_option maxHeartbeats 4000000 in
theorem Qti (base g n c:Nat) (qs:List Arw) (w:World) (hown:w.ownsRow base 37 24 (.slice (some ⟨g,0,none⟩) n c) n (qs.flatMap ArC)) (hql:qs.length=n) (hn:n≤1048576):
 Calls Tryz.prog 48 #[.slice (some ⟨g,0,none⟩) n c,.int .i64 0,.int .i64 n,.func (.func 14) #[] #[]] w fun e w'=>e= .returned (.tuple #[])∧
  w'.ownsRow base 37 24 (.slice (some ⟨g,0,none⟩) n c) n ((srt awK aw0 qs (n-1)).flatMap ArC)∧Only g w w':=by
 have hS:∀k,(srt awK aw0 qs k).length=n:=fun k=>by rw[Qc6,hql]
 have hS1:Hid (∀ k,srt awK aw0 qs (k+1)=sink awK aw0 (srt awK aw0 qs k) (k+1)):=hid (fun _=>rfl)
 have hS0:Hid (srt awK aw0 qs 0=qs):=hid rfl
 have hC:=hid (fun x y w=>Qum x y w)
 generalize srt awK aw0 qs=S at *
 go_enter Tryz.func48,Tryz.ntmps48
 go_wp2_with fail
 go_loopw [8] (fun iv wr=>∃k:Nat,iv= .int .i64 ((k:Int)+1)∧k≤n-1∧wr.ownsRow base 37 24 (.slice (some ⟨g,0,none⟩) n c) n ((S k).flatMap ArC)∧Only g w wr) (fun iv _=>n-(intOf iv).toNat)
 case atStart=>exact⟨0,rfl,by omega,by rw[hS0.out];exact hown,World.grownBy.refl _ _⟩
 case round=>
  clear hown
  obtain⟨k,rfl,hk,hown,hO⟩:=hrel
  by_cases hlt:k+1<n
  ·have f1:decide ((k:Int)+1<(n:Int))=true:=decide_eq_true (by omega)
   have hT:=hid (hS1.out k)
   generalize hSk1:S (k+1)=T at hT
   replace hTd:Hid (T=S (k+1)):=hid hSk1.symm
   clear hSk1
   generalize hSk:S k=C0 at *
   have hC0:C0.length=n:=by rw[←hSk];exact hS k
   clear hSk
   go_wp2_with fail
   go_loopw [9] (fun jv wq=>∃(j:Nat) (cur:List Arw),jv= .int .i64 j∧j<n∧cur.length=n∧wq.ownsRow base 37 24 (.slice (some ⟨g,0,none⟩) n c) n (cur.flatMap ArC)∧Hid (T=sink awK aw0 cur j)∧Only g w wq) (fun jv _=>(intOf jv).toNat)
   case atStart=>exact⟨k+1,C0,by go_num,hlt,hC0,hown,hT,hO⟩
   case round=>
    clear hown hO hT hC0
    obtain⟨j,cur,rfl,hj,hcl,hown,hT,hO⟩:=hrel
    rcases j with _|j
    ·have hT0:=hid (show T=cur from hT.out)
     clear hT
     go_wp2_with fail
     refine Qad [([0,1,2,3,4,5,6,7,8,9,10,11,12,13],14)] [15,16] [] (by as_aux_lemma=>kernel_rfl) (by as_aux_lemma=>kernel_rfl) (by intro _ _ d _ _ h;cases d<;>exact h) ?_
     simp only[Qai,pick,QCo,QCp,QCq,QCr,QCs]
     repeat (go_big_quiet_step (fail))
     refine wpQuiet_nil ?_
     go_wp2_with fail
     try refine⟨by first|assumption|exact Qab _|exact Qaa _ _|exact Later.refl _,?_⟩
     try simp only[Qai,pick,QCo,QCp,QCq,QCr,QCs]
     repeat (go_big_quiet_step (fail))
     refine wpQuiet_nil ?_
     go_wp2_with fail
     exact⟨⟨k+1,by go_num,by omega,by rw[←hTd.out,hT0.out];exact QaC hown (Qab _),hO.later (Qab _)⟩,by simp[intOf];omega⟩
    ·have s1:=hid (fun h=>hT.out.trans (QgQ (key:=awK) (d:=aw0) (l:=cur) (j:=j) (Int.not_lt.2 h)))
     have s2:=hid (fun h=>hT.out.trans (Qgm (key:=awK) (d:=aw0) (l:=cur) (j:=j) h))
     obtain⟨g',rest,hg',hbg,hB,hnc,hcm,hbl⟩:=QkN hown (by omega)
     obtain rfl:g=g':=by simpa using hg'
     have at1:=Qwh cur rest (j:=j+1) (by omega)
     have at0:=Qwh cur rest (j:=j) (by omega)
     have hsw:swp aw0 cur j=(cur.set (j+1) (cur.getD j aw0)).set j (cur.getD (j+1) aw0):=rfl
     simp only[awK]at s1 s2
     generalize swp aw0 cur j=SW at *
     generalize cur.getD (j+1) aw0=X at *
     generalize cur.getD j aw0=Z at *
     replace hsw:=hid hsw
     go_wp2_with fail
     refine Qad [([0,1,2,3,4,5,6,7,8,9,10,11,12,13],14)] [15,16] [] (by as_aux_lemma=>kernel_rfl) (by as_aux_lemma=>kernel_rfl) (by intro _ _ d _ _ h;cases d<;>exact h) ?_
     simp only[Qai,pick,QCo,QCp,QCq,QCr,QCs]
     repeat (first|go_big_quiet_skip|(go_big_quiet_want;(first|refine QeO _ _ rfl ((j+1)*24) (ArC X) hB.drew rfl at1 _ Tryz.underlying37 rfl (by rw[QaK];exact Qa0) ?_|refine QeO _ _ rfl (j*24) (ArC Z) hB.drew rfl at0 _ Tryz.underlying37 rfl (by rw[QaK];exact Qa0) ?_);simp only[Act.put,QCw,QCz,QCy];go_big_quiet_on)|(go_big_quiet_step (fail)))
     refine wpQuiet_nil ?_
     go_wp2_with fail
     refine (hC.out _ _ _).mono ?_
     rintro e w2 ⟨rfl,j2⟩
     have hcn:=Qt3 X.ar.tk Z.ar.tk
     generalize cmpI X.ar.tk Z.ar.tk=CI at *
     have l2:=(Qab wr).trans j2
     have hB2:=hB.later l2
     have own2:=QaC hown l2
     have O2:=hO.later l2
     by_cases hcmp:X.ar.tk<Z.ar.tk
     ·rw[decide_eq_true hcmp]at hcn
      have hT2:=hid (s2.out hcmp)
      have hsb:∀w,(binOp .sub 3 (.int .i64 ((j:Int)+1)) (.int .i64 1)).run Tryz.prog w= .ok (.int .i64 (j:Int)) w:=fun w=>by
       have h2:j+1<n:=hj
       simp[go_sem,IntKind.wrap_i64]
       omega
      have hi1:∀w,(Instr.indexAt 25 (.slice (some ⟨g,0,none⟩) n c) (.int .i64 ((j:Int)+1))).run Tryz.prog w= .ok (.pointer (some ⟨g,(j+1)*24,none⟩)) w:=fun w=>by
       have h2:j+1<n:=hj
       simp[go_sem]
       intro h
       omega
      have hi0:∀w,(Instr.indexAt 25 (.slice (some ⟨g,0,none⟩) n c) (.int .i64 (j:Int))).run Tryz.prog w= .ok (.pointer (some ⟨g,j*24,none⟩)) w:=fun w=>by
       have h2:j+1<n:=hj
       simp[go_sem]
       intro h
       omega
      clear s1 s2
      go_wp2_with fail
      try refine⟨by first|assumption|exact Qab _|exact Qaa _ _|exact Later.refl _,?_⟩
      try simp only[Qai,pick,QCo,QCp,QCq,QCr,QCs]
      repeat (go_big_quiet_step (fail))
      refine wpQuiet_nil ?_
      go_wp2_with fail
      refine Qdd [0,1,2,3,4,5,6,7,8,9,10,11,12,13,14] [15,16,17] (fun i=>if i=9∨i=13 then [] else [15,16,17]) (fun _=>g) (by as_aux_lemma=>kernel_rfl) (by as_aux_lemma=>kernel_rfl) (by intro _ _ d _ _ h;cases d<;>exact h) ?_
      refine⟨_,rfl,rfl,?_⟩
      refine Qd6 _ (.slice (some ⟨g,0,none⟩) n c) rfl rfl ?_
      simp only[Act.put,QCw,QCz,QCy]
      refine⟨_,rfl,rfl,?_⟩
      refine Qd6 _ (.int .i64 ((j:Int)+1)) rfl rfl ?_
      simp only[Act.put,QCw,QCz,QCy]
      refine⟨_,rfl,rfl,?_⟩
      refine Qd6 _ (.slice (some ⟨g,0,none⟩) n c) rfl rfl ?_
      simp only[Act.put,QCw,QCz,QCy]
      refine⟨_,rfl,rfl,?_⟩
      refine Qd6 _ (.int .i64 ((j:Int)+1)) rfl rfl ?_
      simp only[Act.put,QCw,QCz,QCy]
      refine⟨_,rfl,rfl,?_⟩
      refine QoZ _ _ rfl _ hsb ?_
      simp only[Act.put,QCw,QCz,QCy]
      refine⟨_,rfl,rfl,?_⟩
      refine Qd6 _ (.slice (some ⟨g,0,none⟩) n c) rfl rfl ?_
      simp only[Act.put,QCw,QCz,QCy]
      refine⟨_,rfl,rfl,?_⟩
      refine Qd6 _ (.int .i64 ((j:Int)+1)) rfl rfl ?_
      simp only[Act.put,QCw,QCz,QCy]
      refine⟨_,rfl,rfl,?_⟩
      refine QoZ _ _ rfl _ hsb ?_
      simp only[Act.put,QCw,QCz,QCy]
      refine⟨_,rfl,rfl,?_⟩
      refine Qkx _ _ rfl _ hi0 ?_
      simp only[Act.put,QCw,QCz,QCy]
      refine⟨_,rfl,rfl,?_⟩
      refine Qir _ _ rfl (j*24) (ArC Z) hB2 (by simp) rfl at0 _ Tryz.underlying37 rfl (by rw[QaK];exact Qa0) ?_
      simp only[Act.put,QCw,QCz,QCy]
      refine⟨_,rfl,rfl,?_⟩
      refine Qd6 _ (.slice (some ⟨g,0,none⟩) n c) rfl rfl ?_
      simp only[Act.put,QCw,QCz,QCy]
      refine⟨_,rfl,rfl,?_⟩
      refine Qd6 _ (.int .i64 ((j:Int)+1)) rfl rfl ?_
      simp only[Act.put,QCw,QCz,QCy]
      refine⟨_,rfl,rfl,?_⟩
      refine Qkx _ _ rfl _ hi1 ?_
      simp only[Act.put,QCw,QCz,QCy]
      refine⟨_,rfl,rfl,?_⟩
      refine Qir _ _ rfl ((j+1)*24) (ArC X) hB2 (by simp) rfl at1 _ Tryz.underlying37 rfl (by rw[QaK];exact Qa0) ?_
      simp only[Act.put,QCw,QCz,QCy]
      refine⟨_,rfl,rfl,?_⟩
      refine Qkx _ _ rfl _ hi1 ?_
      simp only[Act.put,QCw,QCz,QCy]
      simp only[Qiw,Qge,pick,QCo,QCp,QCq,QCr,QCs]
      refine Qeu QaK QeD aw0 rfl rfl _ _ _ rfl (QaC own2 (Qab _)) hcl (j+1) hj Z rfl rfl Qa0 ?_
      intro v1 own3 ho1
      refine⟨ho1,?_⟩
      go_wp2_with fail
      refine⟨World.grownBy.refl _ _,?_⟩
      refine Qeu QaK QeD aw0 rfl rfl _ _ _ rfl own3 (by rw[QCZ];exact hcl) j (by omega) X rfl rfl Qa0 ?_
      intro v2 own4 ho2
      refine⟨ho2,?_⟩
      go_wp2_with fail
      exact⟨⟨j,SW,by go_num,by omega,by rw[hsw.out,QCZ,QCZ,hcl],by rw[hsw.out];exact own4,hT2,((O2.later (Qab _)).trans ho1).trans ho2⟩,by simp[intOf]⟩
     ·rw[decide_eq_false hcmp]at hcn
      have hT2:=hid (s1.out (Int.not_lt.1 hcmp))
      clear s1 s2
      go_wp2_with fail
      try refine⟨by first|assumption|exact Qab _|exact Qaa _ _|exact Later.refl _,?_⟩
      try simp only[Qai,pick,QCo,QCp,QCq,QCr,QCs]
      repeat (go_big_quiet_step (fail))
      refine wpQuiet_nil ?_
      go_wp2_with fail
      exact⟨⟨k+1,by go_num,by omega,by rw[←hTd.out,hT2.out];exact own2,O2⟩,by simp[intOf];omega⟩
  ·have hkn:Hid (k=n-1):=hid (by omega)
   have f1:decide ((k:Int)+1<(n:Int))=false:=decide_eq_false (by omega)
   go_wp2_with fail
   exact bodyPost_end (results_none rfl _ _ _) rfl ⟨rfl,by rw[←hkn.out];exact hown,hO⟩
set_option maxRecDepth 100000 in
set_option maxHeartbeats 4000000 in
theorem Qp9 (base g n c:Nat) (qs:List Arw) (w:World) (hown:w.ownsRow base 37 24 (.slice (some ⟨g,0,none⟩) n c) n (qs.flatMap ArC)) (hql:qs.length=n) (hn:n<20):
 Calls Tryz.prog 31 #[.slice (some ⟨g,0,none⟩) n c,.int .i64 n,.func (.func 14) #[] #[]] w fun e w'=>e= .returned (.tuple #[])∧
  w'.ownsRow base 37 24 (.slice (some ⟨g,0,none⟩) n c) n ((srt awK aw0 qs (n-1)).flatMap ArC)∧Only g w w':=by
 have f1:decide ((20:Int)≤(n:Int))=false:=decide_eq_false (by omega)
 have f2:decide ((20:Int)<(n:Int))=false:=decide_eq_false (by omega)
 have hI:=hid (Qti base g n c qs w hown hql (by omega))
 go_enter Tryz.func31,Tryz.ntmps31
 go_wp2_with fail
 go_loopw [7,8] (fun v7 v8 wr=>v7= .int .i64 0∧v8= .int .i64 20∧wr=w) (fun _ _ _=>0)
 case atStart=>exact⟨rfl,rfl,rfl⟩
 case round=>
  obtain⟨rfl,rfl,rfl⟩:=hrel
  go_wp2_with fail
  refine hI.out.mono ?_
  rintro e w1 ⟨rfl,own1,ho1⟩
  go_wp2_with fail
  go_loopw [6] (fun v6 wr=>v6= .int .i64 20∧wr=w1) (fun _ _=>0)
  case atStart=>exact⟨rfl,rfl⟩
  case round=>
   obtain⟨rfl,rfl⟩:=hrel
   go_wp2_with fail
   exact bodyPost_end (results_none rfl _ _ _) rfl ⟨rfl,own1,ho1⟩
set_option maxRecDepth 100000 in
theorem Qut (base g n c:Nat) (qs:List Arw) (w:World) (hown:w.ownsRow base 37 24 (.slice (some ⟨g,0,none⟩) n c) n (qs.flatMap ArC)) (hql:qs.length=n) (hn:n<20):
 Calls Tryz.prog 13 #[.slice (some ⟨g,0,none⟩) n c,.func (.func 14) #[] #[]] w fun e w'=>e= .returned (.tuple #[])∧
  w'.ownsRow base 37 24 (.slice (some ⟨g,0,none⟩) n c) n ((srt awK aw0 qs (n-1)).flatMap ArC)∧Only g w w':=by
 have hI:=hid (Qp9 base g n c qs w hown hql hn)
 go_enter Tryz.func13,Tryz.ntmps13
 go_wp2_with fail
 refine hI.out.mono ?_
 rintro e w1 ⟨rfl,own1,ho1⟩
 go_wp2_with fail
 exact bodyPost_end (results_none rfl _ _ _) rfl ⟨rfl,own1,ho1⟩
set_option maxRecDepth 100000 in
theorem Qtr (c:Nat) (w:World):Calls Tryz.prog 48 #[.slice none 0 c,.int .i64 0,.int .i64 0,.func (.func 14) #[] #[]] w fun e w'=>e= .returned (.tuple #[])∧w=w':=by
 go_enter Tryz.func48,Tryz.ntmps48
 go_wp2_with fail
 go_loopw [8] (fun v8 wr=>v8= .int .i64 1∧w=wr) (fun _ _=>0)
 case atStart=>exact⟨rfl,rfl⟩
 case round=>
  obtain⟨rfl,rfl⟩:=hrel
  go_wp2_with fail
  exact bodyPost_end (results_none rfl _ _ _) rfl ⟨rfl,rfl⟩
set_option maxRecDepth 100000 in
theorem QpS (c:Nat) (w:World):Calls Tryz.prog 31 #[.slice none 0 c,.int .i64 0,.func (.func 14) #[] #[]] w fun e w'=>e= .returned (.tuple #[])∧w=w':=by
 go_enter Tryz.func31,Tryz.ntmps31
 go_wp2_with fail
 go_loopw [7,8] (fun v7 v8 wr=>v7= .int .i64 0∧v8= .int .i64 20∧w=wr) (fun _ _ _=>0)
 case atStart=>exact⟨rfl,rfl,rfl⟩
 case round=>
  obtain⟨rfl,rfl,rfl⟩:=hrel
  go_wp2_with fail
  refine (Qtr c w).mono ?_
  rintro e w1 ⟨rfl,rfl⟩
  go_wp2_with fail
  go_loopw [6] (fun v6 wr=>v6= .int .i64 20∧w=wr) (fun _ _=>0)
  case atStart=>exact⟨rfl,rfl⟩
  case round=>
   obtain⟨rfl,rfl⟩:=hrel
   go_wp2_with fail
   exact bodyPost_end (results_none rfl _ _ _) rfl ⟨rfl,rfl⟩
set_option maxRecDepth 100000 in
theorem QtG (c:Nat) (w:World):Calls Tryz.prog 13 #[.slice none 0 c,.func (.func 14) #[] #[]] w fun e w'=>e= .returned (.tuple #[])∧w=w':=by
 go_enter Tryz.func13,Tryz.ntmps13
 go_wp2_with fail
 refine (QpS c w).mono ?_
 rintro e w1 ⟨rfl,rfl⟩
 go_wp2_with fail
 exact bodyPost_end (results_none rfl _ _ _) rfl ⟨rfl,rfl⟩
theorem Qp2:Tryz.prog.built 61 []=some tz0.toArray:=by kernel_rfl
theorem QbK:(Tryz.prog.info? 61).map (·.size)=some 3:=by kernel_rfl
theorem QtD:(Tryz.prog.info? 91).map (·.size)=some 66:=by kernel_rfl
theorem Qsj:(Tryz.prog.info? 98).map (·.size)=some 20:=by kernel_rfl
theorem QrG:(Tryz.prog.info? 120).map (fun i=>(i.zero,i.size,i.bytes))=some (some (.agg (VC vst0).toArray),22,48):=by kernel_rfl
theorem Qom:(Tryz.prog.info? 120).map (fun i=>(i.zero,i.size))=some (some (.agg (VC vst0).toArray),22):=by kernel_rfl
theorem QtX:(Tryz.prog.info? 120).bind (·.zero)=some (.agg (VC vst0).toArray):=by kernel_rfl
theorem Qp5 (x:Vst):Tryz.prog.built 120 [(0,.agg (CC x.cm).toArray),(1,W64 x.id),(2,.int .i64 x.tk)]=some (VC x).toArray:=by
 rw[QaO (pl:=[(0,20),(20,1),(21,1)]) Tryz.underlying120 QtX (by kernel_rfl),QaS (vs:=CC x.cm) (off:=0) rfl (by rw[Qam];rfl) (by rw[Qat,Qam];omega),
  QaS (vs:=[W64 x.id]) (off:=20) rfl rfl (by rw[Qbr _ _ _ (by rw[Qat,Qam];omega),Qat];simp),QaS (vs:=[.int .i64 x.tk]) (off:=21) rfl rfl (by rw[Qbr _ _ _ (by rw[Qbr _ _ _ (by rw[Qat,Qam];omega),Qat];simp),Qbr _ _ _ (by rw[Qat,Qam];omega),Qat];simp),QbM]
 congr 2
 have h1:(CC x.cm).length=20:=Qam _
 have h2:(CC vst0.cm).length=20:=Qam _
 rw[VC,VC]
 generalize CC x.cm=a at *
 generalize CC vst0.cm=z at *
 have e1:Qau (z++[W64 vst0.id,.int .i64 vst0.tk]) 0 a=a++[W64 vst0.id,.int .i64 vst0.tk]:=by
  rw[Qau,QEm,QCs,QCI,h1,QDg h2]
 rw[e1]
 have e2:Qau (a++[W64 vst0.id,.int .i64 vst0.tk]) 20 [W64 x.id]=a++[W64 x.id,.int .i64 vst0.tk]:=by
  rw[Qau,QD9 h1,QCL,QEh,h1,QDf (by omega)]
  rfl
 rw[e2]
 rw[Qau,List.take_append,h1,QCE (by omega),QCL,QEh,h1,QDf (by omega)]
 simp
theorem Qrc (i:UInt64):Qco ⟨#[]⟩ i=byId i:=by
 funext x
 have h:(⟨#[]⟩:ByteArray).toList.isEmpty=true:=by rw[ByteArray.toList_eq];rfl
 rw[Qco,h]
 rfl
theorem Qx5 (d:UInt32):IntKind.i64.wrap (d.toNat:Int)=(d.toNat:Int):=by
 have:=d.toNat_lt
 rw[IntKind.wrap_i64]
 omega
theorem Qxf {a:Int} {d n:Nat} (h:0≤a) (h1:a≤1099511627776+(n:Int)*4294967296) (hn:n≤16) (hd:d<4294967296):IntKind.i64.wrap (a+(d:Int))=a+(d:Int):=by
 rw[IntKind.wrap_i64]
 omega
set_option maxRecDepth 100000 in
set_option maxHeartbeats 8000000 in
theorem QpO (A B:Option Addr) (n c m e:Nat) (xs:List Nod) (tk:Int) (id:UInt64) (b:List UInt8) (w:World) (hx:RdN w A n xs) (hn:n≤1048576) (hs:∀x∈xs,x.nm.size≤140737488355328) (hb:RdB w B m b) (hme:m≤e) (hm:m≤140737488355328):
 Calls Tryz.prog 16 #[.slice A n c,.agg (emC tk id B m e).toArray] w fun x w'=>∃A' c' B' c2,x= .returned (.tuple #[.agg (tr1 A' (Qa3 xs tk id b).vs.length c' B' (Qa3 xs tk id b).bd.length c2 (Qa3 xs tk id b).tk).toArray,.int .i64 ((Qa3 xs tk id b).er:Nat)])∧
  RdF VC 22 vst0 w' A' (Qa3 xs tk id b).vs.length (Qa3 xs tk id b).vs∧OwnB w' w.heap.size B' (Qa3 xs tk id b).bd.length c2 (Qa3 xs tk id b).bd∧Later w w':=by
 have hbl:=hb.len
 have C1:=Qa8 w 50 (emC tk id B m e)
 have C2:Bag w ((w.alloc (.cells (emC tk id B m e).toArray 50)).alloc (.cells tz0.toArray 61)) [(w.heap.size+1,61,tz0),(w.heap.size,50,emC tk id B m e)]:=
  C1.add (Qaa _ _) (by simp) (by omega) (Blk.new' _ _ tz0 (by simp))
 have e0:=(C2.nth 1 rfl).cellD 0 (u:=.int .i64 tk) rfl
 have e2:=(C2.nth 1 rfl).cellD 2 (u:=.slice B m e) rfl
 have hz:=hid Qp2
 have hbv:=hid Qp5
 have hE0:Hid (Qex tk b xs≠0→Qa3 xs tk id b=⟨[],[],0,Qex tk b xs⟩):=hid (fun h=>if_pos h)
 have hE1:Hid (Qex tk b xs=0→Qa3 xs tk id b=QeK xs 16 id tk b []):=hid (fun h=>if_neg (not_not_intro h))
 have hCk:=hid (fun w h=>QjW A n c xs w h (by omega) hs)
 obtain⟨l0,l2⟩:=Qme xs
 generalize Qa3 xs tk id b=R at *
 by_cases ht:tk<0∨1099511627776<tk
 ·have hE:Qex tk b xs=1:=if_pos ht
  have hR:=hE0.out (by rw[hE];decide)
  rw[hE]at hR
  replace hR:=hid hR
  clear hE hE0 hE1 hCk l0 l2
  by_cases h0:tk<0
  ·have f0:decide (tk<0)=true:=decide_eq_true h0
   clear ht h0
   go_enter Tryz.func16,Tryz.ntmps16
   go_wp2_with (first
    | (refine go_b rfl ?_;refine Qah ?hw 61 _ rfl tz0 (by simp only[QCA,QCC];exact hz.out) ?_;(case hw=>rfl))
    | (refine QbG rfl ?_;refine Qaf rfl rfl _ _ _ rfl (w.heap.size+1) _ _ tz0 (C2.nth 0 rfl) rfl rfl 3 QbK rfl rfl QeN ?_;intro w6 hb6 ho6)
    | fail)
   exact bodyPost_ret (Qae rfl _ _ _ _ _ _ hb6 rfl Tryz.underlying61 rfl QbK) rfl ⟨none,0,none,0,by rw[hR.out];rfl,by rw[hR.out];exact QdD _,by rw[hR.out];exact Qay _ _ _,C2.lat.only ho6 (by omega)⟩
  ·have f0:decide (tk<0)=false:=decide_eq_false h0
   have f1:decide (1099511627776<tk)=true:=decide_eq_true (ht.resolve_left h0)
   clear ht h0
   go_enter Tryz.func16,Tryz.ntmps16
   go_wp2_with (first
    | (refine go_b rfl ?_;refine Qah ?hw 61 _ rfl tz0 (by simp only[QCA,QCC];exact hz.out) ?_;(case hw=>rfl))
    | (refine QbG rfl ?_;refine Qaf rfl rfl _ _ _ rfl (w.heap.size+1) _ _ tz0 (C2.nth 0 rfl) rfl rfl 3 QbK rfl rfl QeN ?_;intro w6 hb6 ho6)
    | fail)
   exact bodyPost_ret (Qae rfl _ _ _ _ _ _ hb6 rfl Tryz.underlying61 rfl QbK) rfl ⟨none,0,none,0,by rw[hR.out];rfl,by rw[hR.out];exact QdD _,by rw[hR.out];exact Qay _ _ _,C2.lat.only ho6 (by omega)⟩
 have f0:decide (tk<0)=false:=decide_eq_false (fun h=>ht (.inl h))
 have f1:decide (1099511627776<tk)=false:=decide_eq_false (fun h=>ht (.inr h))
 by_cases h768:m=768
 case neg=>
  have hE:Qex tk b xs=2:=by rw[Qex,if_neg ht,if_neg (by rw[hbl];exact h768),l2]
  have hR:=hE0.out (by rw[hE];decide)
  rw[hE]at hR
  replace hR:=hid hR
  have f2:((m:Int) != 768)=true:=bne_iff_ne.2 (by omega)
  clear hE hE0 hE1 hCk l0 l2 ht
  go_enter Tryz.func16,Tryz.ntmps16
  go_wp2_with (first
   | (refine go_b rfl ?_;refine Qah ?hw 61 _ rfl tz0 (by simp only[QCA,QCC];exact hz.out) ?_;(case hw=>rfl))
   | (refine QbG rfl ?_;refine Qaf rfl rfl _ _ _ rfl (w.heap.size+1) _ _ tz0 (C2.nth 0 rfl) rfl rfl 3 QbK rfl rfl QeN ?_;intro w6 hb6 ho6)
   | fail)
  exact bodyPost_ret (Qae rfl _ _ _ _ _ _ hb6 rfl Tryz.underlying61 rfl QbK) rfl ⟨none,0,none,0,by rw[hR.out];rfl,by rw[hR.out];exact QdD _,by rw[hR.out];exact Qay _ _ _,C2.lat.only ho6 (by omega)⟩
 subst h768
 have hE:Qex tk b xs=QbE xs:=by rw[Qex,if_neg ht,if_pos hbl,l0]
 rw[hE]at hE0 hE1
 clear hE l0 l2 ht
 generalize hCN:QbE xs=CN at *
 go_enter Tryz.func16,Tryz.ntmps16
 go_wp2_with fail
 refine (hCk.out _ (hx.later C2.lat)).mono ?_
 rintro x w3 ⟨rfl,j3⟩
 have C3:=C2.later j3
 clear e0 e2
 by_cases hE:CN=0
 case neg=>
  have hR:=hid (hE0.out hE)
  have fE:((CN:Int) != 0)=true:=bne_iff_ne.2 (by omega)
  clear hE hE0 hE1 hCN
  go_wp2_with (first
   | (refine go_b rfl ?_;refine Qah ?hw 61 _ rfl tz0 (by simp only[QCA,QCC];exact hz.out) ?_;(case hw=>rfl))
   | (refine QbG rfl ?_;refine Qaf rfl rfl _ _ _ rfl (w.heap.size+1) _ _ tz0 (C3.nth 0 rfl) rfl rfl 3 QbK rfl rfl QeN ?_;intro w6 hb6 ho6)
   | fail)
  exact bodyPost_ret (Qae rfl _ _ _ _ _ _ hb6 rfl Tryz.underlying61 rfl QbK) rfl ⟨none,0,none,0,by rw[hR.out];rfl,by rw[hR.out];exact QdD _,by rw[hR.out];exact Qay _ _ _,C3.lat.only ho6 (by omega)⟩
 have hR:=hid (hE1.out hE)
 subst hE
 clear hE0 hE1 hCk C2 C1
 have C4:=C3.fresh (Qaa w3 (.cells tz0.toArray 61)) (QCx _) (Blk.new _ _ tz0)
 have e0:=(C4.nth 2 rfl).cellD 0 (u:=.int .i64 tk) rfl
 have e1:=(C4.nth 2 rfl).cellD 1 (u:=W64 id) rfl
 have e2:=(C4.nth 2 rfl).cellD 2 (u:=.slice B 768 e) rfl
 go_wp2_with fail
 refine (Qcf B 768 e b _ (hb.later C4.lat) (by omega)).mono ?_
 rintro x w5 ⟨AP,cp,rfl,oP,j5⟩
 have C5:=C4.later j5
 have oP5:=Qbb oP C4.lat.size
 have n69:w.heap.size+1<w3.heap.size:=(C3.nth 0 rfl).lt
 have ht0:0≤tk∧tk≤1099511627776:=by
  have a1:=of_decide_eq_false f0
  have a2:=of_decide_eq_false f1
  omega
 clear f0 f1 e0 e1 e2 C4 C3 oP hb
 generalize w3.heap.size=g9 at *
 go_wp2_with fail
 go_loopw [8,9,10] (fun v8 v9 v10 wr=>∃(k:Nat) (id2:UInt64) (tk2:Int) (p:List UInt8) (vs:List Vst) (A2:Option Addr) (c2:Nat) (AP:Option Addr) (cp:Nat),v8= .int .i64 tk2∧v9=W64 id2∧v10= .slice AP 768 cp∧vs.length+k=16∧p.length=768∧0≤tk2∧tk2≤1099511627776+(vs.length:Int)*4294967296∧
  Bag w wr [(g9,61,tr1 A2 vs.length c2 none 0 0 0),(w.heap.size+1,61,tz0)]∧wr.ownsRow w.heap.size 120 22 (.slice A2 vs.length c2) vs.length (vs.flatMap VC)∧OwnB wr w.heap.size AP 768 cp p∧Hid (R=QeK xs k id2 tk2 p vs)) (fun _ _ _ w'=>match w'.cell? ⟨g9,0,none⟩ with|some (.slice _ n _)=>16-n|_=>0)
 case atStart=>exact⟨16,id,tk,b,[],none,0,AP,cp,rfl,rfl,rfl,rfl,hbl,ht0.1,by simp;omega,⟨C5.lat,fun q hq=>C5.blk q (by simp only[QCQ,QCT,or_false]at hq ⊢;rcases hq with rfl|rfl<;>simp),fun q hq=>C5.low q (by simp only[QCQ,QCT,or_false]at hq ⊢;rcases hq with rfl|rfl<;>simp),by simp;omega⟩,⟨by simp,.inl ⟨rfl,rfl⟩⟩,oP5,hR⟩
 case round=>
  clear C5 hR ht0 oP5
  obtain⟨k,id2,tk2,p,vs,A2,c2,AP,cp,rfl,rfl,rfl,hvk,hpl,ht2,ht3,C,hown,oP,hR⟩:=hrel
  have z0:=(C.nth 0 rfl).cellD 0 (u:=.slice A2 vs.length c2) rfl
  rcases k with _|k
  ·have f16:decide ((vs.length:Int)<16)=false:=decide_eq_false (by omega)
   have f16':decide (vs.length<16)=false:=decide_eq_false (by omega)
   have hR0:R=⟨vs,[],0,11⟩:=hR.out
   replace hR0:=hid hR0
   clear hR
   go_wp2_with (first
    | (refine go_l rfl ?_;refine Qal ?hw _ _ rfl g9 0 (tr1 A2 vs.length c2 none 0 0 0) (fun j v hv=>by rw[QCI];exact (C.nth 0 rfl).cellD j hv) rfl _ Tryz.underlying61 rfl QbK ?_;(case hw=>rfl))
    | (refine QbG rfl ?_;refine Qaf rfl rfl _ _ _ rfl (w.heap.size+1) _ _ (tr1 A2 vs.length c2 none 0 0 0) (C.nth 1 rfl) rfl rfl 3 QbK rfl rfl (Qdm _ _ _ _ _ _ _) ?_;intro w6 hb6 ho6)
    | fail)
   have own6:=Qar hown (C.nth 1 rfl) (by decide) ho6
   exact bodyPost_ret (Qae rfl _ _ _ _ _ _ hb6 rfl Tryz.underlying61 rfl QbK) rfl ⟨A2,c2,none,0,by rw[hR0.out];rfl,by rw[hR0.out];exact Qc5 (d:=vst0) Qat own6 rfl,by rw[hR0.out];exact Qay _ _ _,C.lat.only ho6 (by omega)⟩
  have f16:decide ((vs.length:Int)<16)=true:=decide_eq_true (by omega)
  have f16':decide (vs.length<16)=true:=decide_eq_true (by omega)
  have hFd:=hid (fun w h=>Qrw A n c xs ⟨#[]⟩ id2 w h (by omega) hs)
  rw[Qrc]at hFd
  have r1:=hid (fun h=>hR.out.trans (Qj1 (xs:=xs) (k:=k) (id:=id2) (tk:=tk2) (p:=p) (vs:=vs) h))
  have r2:=hid (fun h h1=>hR.out.trans (QjY (xs:=xs) (k:=k) (id:=id2) (tk:=tk2) (p:=p) (vs:=vs) h h1))
  have r3:=hid (fun h h1 h2=>hR.out.trans (QlZ (xs:=xs) (k:=k) (id:=id2) (tk:=tk2) (p:=p) (vs:=vs) h h1 h2))
  have r4:=hid (fun h h1 h2=>hR.out.trans (QoD (xs:=xs) (k:=k) (id:=id2) (tk:=tk2) (p:=p) (vs:=vs) h h1 h2))
  clear hR
  generalize (QbN (byId id2) xs).2=FE at *
  generalize (QbN (byId id2) xs).1=FN at *
  go_wp2_with fail
  refine (hFd.out wr (hx.later C.lat)).mono ?_
  rintro x x1 ⟨rfl,i1⟩
  have D1:=C.later i1
  have own1:=QaC hown i1
  have oP1:=Qap oP i1
  have hz0:=hid z0
  clear hFd z0
  by_cases hFE:FE≠0
  ·have fE:((FE:Int) != 0)=true:=bne_iff_ne.2 (by omega)
   have hR0:=hid (r1.out hFE)
   clear r1 r2 r3 r4 hFE
   go_wp2_with (first
    | (refine QbG rfl ?_;refine QcE QtD rfl rfl _ _ rfl (Blk.new x1 _ (NC nod0)) rfl rfl (QaR _) ?_;intro x2 hb2 ho2
       have l2:Later x1 x2:=(Qaa x1 _).only ho2 (QCx _)
       have D2:=D1.later l2)
    | (refine go_l rfl ?_;refine Qal ?hw _ _ rfl g9 0 (tr1 A2 vs.length c2 none 0 0 0) (fun j v hv=>by rw[QCI];exact (D2.nth 0 rfl).cellD j hv) rfl _ Tryz.underlying61 rfl QbK ?_;(case hw=>rfl))
    | (refine QbG rfl ?_;refine Qaf rfl rfl _ _ _ rfl (w.heap.size+1) _ _ (tr1 A2 vs.length c2 none 0 0 0) (D2.nth 1 rfl) rfl rfl 3 QbK rfl rfl (Qdm _ _ _ _ _ _ _) ?_;intro w6 hb6 ho6)
    | fail)
   have own6:=Qar (QaC own1 l2) (D2.nth 1 rfl) (by decide) ho6
   exact bodyPost_ret (Qae rfl _ _ _ _ _ _ hb6 rfl Tryz.underlying61 rfl QbK) rfl ⟨A2,c2,none,0,by rw[hR0.out];rfl,by rw[hR0.out];exact Qc5 (d:=vst0) Qat own6 rfl,by rw[hR0.out];exact Qay _ _ _,D2.lat.only ho6 (by omega)⟩
  replace r2:=hid (r2.out hFE)
  replace r3:=hid (r3.out hFE)
  replace r4:=hid (r4.out hFE)
  obtain rfl:FE=0:=Classical.not_not.1 hFE
  clear r1 hFE
  have hUn:=hid (fun g w h1 h2 hc=>QmF (some ⟨g,2,none⟩) AP 32 32 cp FN.priv.val p w h1 (by omega) h2 hc)
  have hQ1:Hid (unwE FN.priv.val p=0→(unwC FN.priv.val p).kd=1→unwQ FN.priv.val p=unwP FN.priv.val p):=hid (fun h0 h=>by rw[unwQ,if_pos ⟨h0,h⟩])
  have hUSl:(unwS FN.priv.val p).length=32:=by
   unfold unwS
   split
   ·exact Qav (by rw[Qcs];omega)
   ·exact QCJ
  have hUP:=Qgj FN.priv.val p hpl
  generalize unwE FN.priv.val p=UE at *
  generalize unwC FN.priv.val p=UC at *
  generalize unwP FN.priv.val p=UP at *
  generalize unwB FN.priv.val p=UB at *
  generalize unwQ FN.priv.val p=UQ at *
  generalize unwS FN.priv.val p=US at *
  go_wp2_with (first
   | (refine QbG rfl ?_;refine QcE QtD rfl rfl _ _ rfl (Blk.new x1 _ (NC nod0)) rfl rfl (QaR _) ?_;intro x2 hb2 ho2
      have l2:Later x1 x2:=(Qaa x1 _).only ho2 (QCx _)
      have D2:=D1.fresh l2 (QCx _) hb2
      have own2:=QaC own1 l2
      have oP2:=Qap oP1 l2)
   | fail)
  refine (hUn.out x1.heap.size x2 (QqQ (D2.nth 0 rfl).lt (fun j v hv=>(D2.nth 0 rfl).cellD _ (Qsm FN hv)) FN.priv.2) (OwnB.rd oP2) (OwnB.cap oP2)).mono ?_
  rintro x x3 ⟨AQ,cQ,AB,cB,rfl,oQ,oB,i3⟩
  have D3:=(D2.drop 1).later i3
  have own3:=QaC own2 i3
  have oQ3:=Qbb oQ D2.lat.size
  have oB3:=Qbb oB D2.lat.size
  have E1:=D3.fresh (Qaa x3 (.cells re0.toArray 116)) (QCx _) (Blk.new _ _ re0)
  have E2:=E1.fresh (Qaa (x3.alloc (.cells re0.toArray 116)) (.cells (QCn 32 (Value.int .u8 0)).toArray 79)) (QCx _) (Blk.new _ _ (QCn 32 (Value.int .u8 0)))
  have hsz:(x3.alloc (.cells re0.toArray 116)).heap.size=x3.heap.size+1:=by simp only[World.alloc,Array.size_push]
  rw[hsz]at E2
  have lA:=(Qaa x3 (.cells re0.toArray 116)).trans (Qaa (x3.alloc (.cells re0.toArray 116)) (.cells (QCn 32 (Value.int .u8 0)).toArray 79))
  have own4:=QaC own3 lA
  have oQ4:=Qap oQ3 lA
  have oB4:=Qap oB3 lA
  clear C D1 D2 D3 E1 own1 own2 own3 oP oP1 oP2 oQ oB oQ3 oB3 hUn hown i1 i3 l2 hb2 ho2 lA hsz
  by_cases hUE:UE≠0
  ·have fU:((UE:Int) != 0)=true:=bne_iff_ne.2 (by omega)
   have hR0:=hid (r2.out hUE)
   clear r2 r3 r4 hUE
   go_wp2_with (first
    | (refine QbG rfl ?_;refine Qdy rfl rfl _ _ rfl (E2.nth 1 rfl) rfl rfl rfl rfl rfl ?_;intro x4 hb4 ho4
       have E3:=E2.write 1 rfl ho4 hb4
       have own5:=Qar own4 (E2.nth 1 rfl) (by decide) ho4
       have oQ5:=Qar oQ4 (E2.nth 1 rfl) (by decide) ho4
       have oB5:=Qar oB4 (E2.nth 1 rfl) (by decide) ho4)
    | (refine QbG rfl ?_;refine Qa5 rfl rfl _ _ rfl (E3.nth 0 rfl) rfl rfl hUSl rfl ?_;intro x5 hb5 ho5
       have E4:=E3.write 0 rfl ho5 hb5
       have own6:=Qar own5 (E3.nth 0 rfl) (by decide) ho5
       have oQ6:=Qar oQ5 (E3.nth 0 rfl) (by decide) ho5
       have oB6:=Qar oB5 (E3.nth 0 rfl) (by decide) ho5
       have z2:=(E4.nth 2 rfl).cellD 0 (u:=.slice A2 vs.length c2) rfl)
    | (refine go_l rfl ?_;refine Qal ?hw _ _ rfl g9 0 (tr1 A2 vs.length c2 none 0 0 0) (fun j v hv=>by rw[QCI];exact (E4.nth 2 rfl).cellD j hv) rfl _ Tryz.underlying61 rfl QbK ?_;(case hw=>rfl))
    | (refine QbG rfl ?_;refine Qaf rfl rfl _ _ _ rfl (w.heap.size+1) _ _ (tr1 A2 vs.length c2 none 0 0 0) (E4.nth 3 rfl) rfl rfl 3 QbK rfl rfl (Qdm _ _ _ _ _ _ _) ?_;intro w6 hb6 ho6)
    | fail)
   have own7:=Qar own6 (E4.nth 3 rfl) (by decide) ho6
   exact bodyPost_ret (Qae rfl _ _ _ _ _ _ hb6 rfl Tryz.underlying61 rfl QbK) rfl ⟨A2,c2,none,0,by rw[hR0.out];rfl,by rw[hR0.out];exact Qc5 (d:=vst0) Qat own7 rfl,by rw[hR0.out];exact Qay _ _ _,E4.lat.only ho6 (by omega)⟩
  replace r3:=hid (r3.out hUE)
  replace r4:=hid (r4.out hUE)
  replace hQ1:=hid (hQ1.out (Classical.not_not.1 hUE))
  obtain rfl:UE=0:=Classical.not_not.1 hUE
  clear r2 hUE
  have hsz48:(vs.length+1)*48≤140737488355328:=by omega
  have hwd:=Qx5 UC.dl
  have hdl:=UC.dl.toNat_lt
  have hwt:=Qxf ht2 ht3 (by omega) hdl
  have hvl:(vs++[(⟨UC,id2,tk2⟩:Vst)]).length=vs.length+1:=by simp
  by_cases hkd:UC.kd≠1
  ·have fk:(UC.kd != 1)=true:=bne_iff_ne.2 hkd
   have hR0:=hid (r3.out hkd)
   clear r3 r4 hkd hQ1
   go_wp2_with (first
    | (refine QbG rfl ?_;refine Qdy rfl rfl _ _ rfl (E2.nth 1 rfl) rfl rfl rfl rfl rfl ?_;intro x4 hb4 ho4
       have E3:=E2.write 1 rfl ho4 hb4
       have own5:=Qar own4 (E2.nth 1 rfl) (by decide) ho4
       have oQ5:=Qar oQ4 (E2.nth 1 rfl) (by decide) ho4
       have oB5:=Qar oB4 (E2.nth 1 rfl) (by decide) ho4)
    | (refine QbG rfl ?_;refine Qa5 rfl rfl _ _ rfl (E3.nth 0 rfl) rfl rfl hUSl rfl ?_;intro x5 hb5 ho5
       have E4:=E3.write 0 rfl ho5 hb5
       have own6:=Qar own5 (E3.nth 0 rfl) (by decide) ho5
       have oQ6:=Qar oQ5 (E3.nth 0 rfl) (by decide) ho5
       have oB6:=Qar oB5 (E3.nth 0 rfl) (by decide) ho5
       have z2:=(E4.nth 2 rfl).cellD 0 (u:=.slice A2 vs.length c2) rfl)
    | (refine go_l rfl ?_;refine Qal ?hw _ _ rfl x3.heap.size 0 (CC UC) (fun j v hv=>(E4.nth 1 rfl).cellD (0+j) (Qfc _ _ _ j v hv)) rfl _ Tryz.underlying98 rfl (by rw[Qam];exact Qsj) ?_;(case hw=>rfl))
    | (refine go_b rfl ?_;refine Qah ?hw 120 _ rfl (VC ⟨UC,id2,tk2⟩) (by simp only[QCA,QCR,QCC];exact hbv.out ⟨UC,id2,tk2⟩) ?_;(case hw=>rfl))
    | (refine go_s rfl ?_;refine Qcj ?hw 59 _ rfl 120 22 _ (VC ⟨UC,id2,tk2⟩) Tryz.underlying59 Qom (by omega) (by omega) (Qat _) rfl ?_;(case hw=>rfl))
    | (refine go_a rfl ?_;refine QaW (F:=VC) (d:=vst0) Qat QeB (by omega) rfl _ _ _ rfl 120 _ 48 Tryz.underlying59 QrG rfl w _ _ _ (QaC own6 (Qaa _ _)) (E4.lat.trans (Qaa _ _)) (some ⟨x5.heap.size,0,none⟩) 1 1 [⟨UC,id2,tk2⟩] (QeP Qat (show Blk (x5.alloc (.cells (VC ⟨UC,id2,tk2⟩).toArray 120)) x5.heap.size 120 ([(⟨UC,id2,tk2⟩:Vst)].flatMap VC) by simp only[QDi,QEu,QC1];exact Blk.new x5 _ _) rfl) rfl rfl hsz48 (by omega) ?_;intro A8 c8 x8 hown8 hl8 hg8
       have hr8:=QaC own6 (Qaa x5 (.cells (VC ⟨UC,id2,tk2⟩).toArray 120))
       have E5:=(E4.later (Qaa x5 (.cells (VC ⟨UC,id2,tk2⟩).toArray 120))).grown hr8 (QhO (by simp)) (QCx _) hg8
       have oQ8:=QbT (Qap oQ6 (Qaa x5 (.cells (VC ⟨UC,id2,tk2⟩).toArray 120))) hr8 (by decide) hg8
       have oB8:=QbT (Qap oB6 (Qaa x5 (.cells (VC ⟨UC,id2,tk2⟩).toArray 120))) hr8 (by decide) hg8)
    | (refine QbG rfl ?_;refine Qac rfl rfl _ _ _ rfl g9 0 _ _ (E5.nth 2 rfl) rfl (by simp) rfl (by kernel_rfl) ?_;intro v9 x9 hv9 hb9 ho9;simp[go_sem]at hv9;subst hv9
       have E6:=E5.write 2 rfl ho9 hb9
       have own9:=Qar hown8 (E5.nth 2 rfl) (by decide) ho9
       have oQ9:=Qar oQ8 (E5.nth 2 rfl) (by decide) ho9
       have oB9:=Qar oB8 (E5.nth 2 rfl) (by decide) ho9
       have y0:=(E6.nth 1 rfl).cellD 0 (by have:=Qfc UC (.slice AQ UQ.length cQ) (.slice AB UB.length cB) 0 _ rfl;rwa [QCI]at this)
       have y2:=(E6.nth 1 rfl).cellD 2 (by have:=Qfc UC (.slice AQ UQ.length cQ) (.slice AB UB.length cB) 2 _ rfl;rwa [QCI]at this)
       have y3:=(E6.nth 1 rfl).cellD 3 (by have:=Qfc UC (.slice AQ UQ.length cQ) (.slice AB UB.length cB) 3 _ rfl;rwa [QCI]at this)
       have y20:=(E6.nth 1 rfl).cellD 20 (Qy4 UC (.slice AQ UQ.length cQ) (.slice AB UB.length cB))
       have y21:=(E6.nth 1 rfl).cellD 21 (Qzy UC (.slice AQ UQ.length cQ) (.slice AB UB.length cB)))
    | (refine QbG rfl ?_;refine Qac rfl rfl _ _ _ rfl g9 1 _ _ (E6.nth 2 rfl) rfl (by simp) rfl (by kernel_rfl) ?_;intro v10 x10 hv10 hb10 ho10;simp[go_sem]at hv10;subst hv10
       have E7:=E6.write 2 rfl ho10 hb10
       have own10:=Qar own9 (E6.nth 2 rfl) (by decide) ho10
       have oB10:=Qar oB9 (E6.nth 2 rfl) (by decide) ho10)
    | (refine QbG rfl ?_;refine Qac rfl rfl _ _ _ rfl g9 2 _ _ (E7.nth 2 rfl) rfl (by simp) rfl (by kernel_rfl) ?_;intro v11 x11 hv11 hb11 ho11;simp[go_sem]at hv11;subst hv11
       have E8:=E7.write 2 rfl ho11 hb11
       have own11:=Qar own10 (E7.nth 2 rfl) (by decide) ho11
       have oB11:=Qar oB10 (E7.nth 2 rfl) (by decide) ho11)
    | (refine go_l rfl ?_;refine Qal ?hw _ _ rfl g9 0 (tr1 A8 (vs.length+1) c8 AB UB.length cB (tk2+(UC.dl.toNat:Int))) (fun j v hv=>by rw[QCI];exact (E8.nth 2 rfl).cellD j hv) rfl _ Tryz.underlying61 rfl QbK ?_;(case hw=>rfl))
    | (refine QbG rfl ?_;refine Qaf rfl rfl _ _ _ rfl (w.heap.size+1) _ _ (tr1 A8 (vs.length+1) c8 AB UB.length cB (tk2+(UC.dl.toNat:Int))) (E8.nth 3 rfl) rfl rfl 3 QbK rfl rfl (Qdm _ _ _ _ _ _ _) ?_;intro w6 hb6 ho6)
    | fail)
   have oV5:=Qar own11 (E8.nth 3 rfl) (by decide) ho6
   have oT5:=Qar oB11 (E8.nth 3 rfl) (by decide) ho6
   have oV6:w6.ownsRow w.heap.size 120 22 (.slice A8 (vs++[(⟨UC,id2,tk2⟩:Vst)]).length c8) (vs++[(⟨UC,id2,tk2⟩:Vst)]).length ((vs++[(⟨UC,id2,tk2⟩:Vst)]).flatMap VC):=by
    rw[hvl,QDZ]
    exact oV5
   exact bodyPost_ret (Qae rfl _ _ _ _ _ _ hb6 rfl Tryz.underlying61 rfl QbK) rfl ⟨A8,c8,AB,cB,by rw[hR0.out,hvl];rfl,by rw[hR0.out];exact Qc5 (d:=vst0) Qat oV6 rfl,by rw[hR0.out];exact oT5,E8.lat.only ho6 (by omega)⟩
  ·have fk:(UC.kd != 1)=false:=by
    rw[Classical.not_not.1 hkd]
    rfl
   have hR0:=hid (r4.out hkd)
   obtain rfl:=hQ1.out (Classical.not_not.1 hkd)
   clear r3 r4 hkd hQ1
   replace hUP:=hid hUP
   go_wp2_with (first
    | (refine QbG rfl ?_;refine Qdy rfl rfl _ _ rfl (E2.nth 1 rfl) rfl rfl rfl rfl rfl ?_;intro x4 hb4 ho4
       have E3:=E2.write 1 rfl ho4 hb4
       have own5:=Qar own4 (E2.nth 1 rfl) (by decide) ho4
       have oQ5:=Qar oQ4 (E2.nth 1 rfl) (by decide) ho4
       have oB5:=Qar oB4 (E2.nth 1 rfl) (by decide) ho4)
    | (refine QbG rfl ?_;refine Qa5 rfl rfl _ _ rfl (E3.nth 0 rfl) rfl rfl hUSl rfl ?_;intro x5 hb5 ho5
       have E4:=E3.write 0 rfl ho5 hb5
       have own6:=Qar own5 (E3.nth 0 rfl) (by decide) ho5
       have oQ6:=Qar oQ5 (E3.nth 0 rfl) (by decide) ho5
       have oB6:=Qar oB5 (E3.nth 0 rfl) (by decide) ho5
       have z2:=(E4.nth 2 rfl).cellD 0 (u:=.slice A2 vs.length c2) rfl)
    | (refine go_l rfl ?_;refine Qal ?hw _ _ rfl x3.heap.size 0 (CC UC) (fun j v hv=>(E4.nth 1 rfl).cellD (0+j) (Qfc _ _ _ j v hv)) rfl _ Tryz.underlying98 rfl (by rw[Qam];exact Qsj) ?_;(case hw=>rfl))
    | (refine go_b rfl ?_;refine Qah ?hw 120 _ rfl (VC ⟨UC,id2,tk2⟩) (by simp only[QCA,QCR,QCC];exact hbv.out ⟨UC,id2,tk2⟩) ?_;(case hw=>rfl))
    | (refine go_s rfl ?_;refine Qcj ?hw 59 _ rfl 120 22 _ (VC ⟨UC,id2,tk2⟩) Tryz.underlying59 Qom (by omega) (by omega) (Qat _) rfl ?_;(case hw=>rfl))
    | (refine go_a rfl ?_;refine QaW (F:=VC) (d:=vst0) Qat QeB (by omega) rfl _ _ _ rfl 120 _ 48 Tryz.underlying59 QrG rfl w _ _ _ (QaC own6 (Qaa _ _)) (E4.lat.trans (Qaa _ _)) (some ⟨x5.heap.size,0,none⟩) 1 1 [⟨UC,id2,tk2⟩] (QeP Qat (show Blk (x5.alloc (.cells (VC ⟨UC,id2,tk2⟩).toArray 120)) x5.heap.size 120 ([(⟨UC,id2,tk2⟩:Vst)].flatMap VC) by simp only[QDi,QEu,QC1];exact Blk.new x5 _ _) rfl) rfl rfl hsz48 (by omega) ?_;intro A8 c8 x8 hown8 hl8 hg8
       have hr8:=QaC own6 (Qaa x5 (.cells (VC ⟨UC,id2,tk2⟩).toArray 120))
       have E5:=(E4.later (Qaa x5 (.cells (VC ⟨UC,id2,tk2⟩).toArray 120))).grown hr8 (QhO (by simp)) (QCx _) hg8
       have oQ8:=QbT (Qap oQ6 (Qaa x5 (.cells (VC ⟨UC,id2,tk2⟩).toArray 120))) hr8 (by decide) hg8
       have oB8:=QbT (Qap oB6 (Qaa x5 (.cells (VC ⟨UC,id2,tk2⟩).toArray 120))) hr8 (by decide) hg8)
    | (refine QbG rfl ?_;refine Qac rfl rfl _ _ _ rfl g9 0 _ _ (E5.nth 2 rfl) rfl (by simp) rfl (by kernel_rfl) ?_;intro v9 x9 hv9 hb9 ho9;simp[go_sem]at hv9;subst hv9
       have E6:=E5.write 2 rfl ho9 hb9
       have own9:=Qar hown8 (E5.nth 2 rfl) (by decide) ho9
       have oQ9:=Qar oQ8 (E5.nth 2 rfl) (by decide) ho9
       have oB9:=Qar oB8 (E5.nth 2 rfl) (by decide) ho9
       have y0:=(E6.nth 1 rfl).cellD 0 (by have:=Qfc UC (.slice AQ UQ.length cQ) (.slice AB UB.length cB) 0 _ rfl;rwa [QCI]at this)
       have y2:=(E6.nth 1 rfl).cellD 2 (by have:=Qfc UC (.slice AQ UQ.length cQ) (.slice AB UB.length cB) 2 _ rfl;rwa [QCI]at this)
       have y3:=(E6.nth 1 rfl).cellD 3 (by have:=Qfc UC (.slice AQ UQ.length cQ) (.slice AB UB.length cB) 3 _ rfl;rwa [QCI]at this)
       have y20:=(E6.nth 1 rfl).cellD 20 (Qy4 UC (.slice AQ UQ.length cQ) (.slice AB UB.length cB))
       have y21:=(E6.nth 1 rfl).cellD 21 (Qzy UC (.slice AQ UQ.length cQ) (.slice AB UB.length cB)))
    | fail)
   have oV6:x9.ownsRow w.heap.size 120 22 (.slice A8 (vs++[(⟨UC,id2,tk2⟩:Vst)]).length c8) (vs++[(⟨UC,id2,tk2⟩:Vst)]).length ((vs++[(⟨UC,id2,tk2⟩:Vst)]).flatMap VC):=by
    rw[hvl,QDZ]
    exact own9
   have E9:Bag w x9 [(g9,61,tr1 A8 (vs++[(⟨UC,id2,tk2⟩:Vst)]).length c8 none 0 0 0),(w.heap.size+1,61,tz0)]:=by
    rw[hvl]
    exact E6.drop 2
   rw[hUP.out]at oQ9
   have zn:x9.cell? ⟨g9,0,none⟩=some (.slice A8 (vs++[(⟨UC,id2,tk2⟩:Vst)]).length c8):=(E9.nth 0 rfl).cellD 0 rfl
   refine⟨?_,?_⟩
   ·have q1:(vs++[(⟨UC,id2,tk2⟩:Vst)]).length+k=16:=by rw[hvl];omega
    have q2:0≤tk2+(UC.dl.toNat:Int):=QyZ ht2
    have q3:tk2+(UC.dl.toNat:Int)≤1099511627776+((vs++[(⟨UC,id2,tk2⟩:Vst)]).length:Int)*4294967296:=by
     rw[hvl]
     exact QzJ ht3 hdl
    exact⟨k,UC.nx,_,UQ,_,A8,c8,AQ,cQ,rfl,rfl,by first|rfl|rw[hUP.out],q1,hUP.out,q2,q3,E9,oV6,oQ9,hR0⟩
   ·rw[zn,hz0.out,hvl]
    show 16-(vs.length+1)<16-vs.length
    omega
end Go.Proofs.YtdkpcdgckgaklaaGreat
namespace Go.Proofs.YtdkpcdgckgaklaaGreat
section
variable {α:Type} (key:α→Int) (d:α)
def insK (l:List α) (a:α):Nat→Nat
 | 0=>0
 | k+1=>if key a<key (l.getD k d) then insK l a k else k+1
def insL (l:List α) (a:α):List α:=l.take (insK key d l a l.length)++a :: l.drop (insK key d l a l.length)
def srtA (l:List α):List α:=srt key d l (l.length-1)
theorem QlH {l:List α} {a:α} {k:Nat} (h:key a<key (l.getD k d)):insK key d l a (k+1)=insK key d l a k:=by rw[insK,if_pos h]
theorem Qlv {l:List α} {a:α} {k:Nat} (h: ¬key a<key (l.getD k d)):insK key d l a (k+1)=k+1:=by rw[insK,if_neg h]
theorem Qxj (l:List α) (a:α) (j:Nat) (h:j<l.length):swp d (l.take (j+1)++a :: l.drop (j+1)) j=l.take j++a :: l.drop j:=by
 have h1:l.take (j+1)++a :: l.drop (j+1)=l.take j++(l[j] :: a :: l.drop (j+1)):=by
  rw[QCY h,QCL]
  rfl
 have h2:l.drop j=l[j] :: l.drop (j+1):=QDp h
 have hl:(l.take j).length=j:=by rw[QCP];omega
 rw[h1,h2]
 generalize l.take j=u at *
 generalize l.drop (j+1)=v at *
 generalize l[j]=b at *
 subst hl
 have e1:(u++b :: a :: v).getD u.length d=b:=by simp[QCu]
 have e2:(u++b :: a :: v).getD (u.length+1) d=a:=by simp[QCu]
 rw[swp,e1,e2,QCX _ _ (by omega),QCX _ _ (by omega)]
 simp
theorem Qn8 (l:List α) (a:α):∀j,j≤l.length→sink key d (l.take j++a :: l.drop j) j=l.take (insK key d l a j)++a :: l.drop (insK key d l a j)
 | 0,_=>rfl
 | j+1,h=>by
   have g1:(l.take (j+1)++a :: l.drop (j+1)).getD (j+1) d=a:=by
    have hl:(l.take (j+1)).length=j+1:=by rw[QCP];omega
    rw[QCu,QCF (by omega),hl,QEB]
    rfl
   have g2:(l.take (j+1)++a :: l.drop (j+1)).getD j d=l.getD j d:=by
    rw[QCu,QCD (by rw[QCP];omega),QDt,if_pos (by omega),QCu]
   by_cases hk:key a<key (l.getD j d)
   ·rw[Qgm (by rw[g1,g2];exact hk),QlH key d hk,Qxj d l a j (by omega)]
    exact Qn8 l a j (by omega)
   ·rw[QgQ (by rw[g1,g2];exact hk),Qlv key d hk]
theorem QxJ (l:List α) (a:α) (j:Nat) (h:j+1<l.length):swp d (l++[a]) j=swp d l j++[a]:=by
 have e1:(l++[a]).getD j d=l.getD j d:=by rw[QCu,QCD (by omega),QCu]
 have e2:(l++[a]).getD (j+1) d=l.getD (j+1) d:=by rw[QCu,QCD (by omega),QCu]
 rw[swp,swp,e1,e2,QDD _ _ (by omega),QDD _ _ (by rw[QCZ];omega)]
theorem Qo2 (a:α):∀(j:Nat) (l:List α),j<l.length→sink key d (l++[a]) j=sink key d l j++[a]
 | 0,_,_=>rfl
 | j+1,l,h=>by
   have e1:(l++[a]).getD j d=l.getD j d:=by rw[QCu,QCD (by omega),QCu]
   have e2:(l++[a]).getD (j+1) d=l.getD (j+1) d:=by rw[QCu,QCD (by omega),QCu]
   by_cases hk:key (l.getD (j+1) d)<key (l.getD j d)
   ·rw[Qgm (by rw[e1,e2];exact hk),Qgm hk,QxJ d l a j h]
    exact Qo2 a j _ (by rw[QfE];omega)
   ·rw[QgQ (by rw[e1,e2];exact hk),QgQ hk]
theorem QtF (l:List α) (a:α):∀k,k<l.length→srt key d (l++[a]) k=srt key d l k++[a]
 | 0,_=>rfl
 | k+1,h=>by rw[srt,srt,QtF l a k (by omega),Qo2 key d a (k+1) _ (by rw[Qc6];exact h)]
theorem Qns (l:List α):(srtA key d l).length=l.length:=Qc6 _
theorem QsO (l:List α) (a:α):srtA key d (l++[a])=insL key d (srtA key d l) a:=by
 rcases QD6 l.length with h|h
 ·obtain rfl:=QC0 h
  rfl
 ·have e:srtA key d (l++[a])=sink key d (srtA key d l++[a]) l.length:=by
   obtain⟨n,hn⟩:∃n,l.length=n+1:=⟨l.length-1,by omega⟩
   rw[srtA,srtA,QCB,QEd,Nat.add_sub_cancel,hn,srt,QtF key d l a n (by omega)]
   rfl
  have hm:=Qn8 key d (srtA key d l) a (srtA key d l).length (QCx _)
  rw[QCE (QCx _),QDf (QCx _)]at hm
  rw[e,←Qns key d l,hm]
  rfl
end
end Go.Proofs.YtdkpcdgckgaklaaGreat
