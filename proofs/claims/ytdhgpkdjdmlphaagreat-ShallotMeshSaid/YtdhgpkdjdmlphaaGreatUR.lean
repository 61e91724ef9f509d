/-
  Lemmas for the last text of this claim (part 18 of 20).
-/
import Derived.ArgAppend
import Derived.BigQuiet
import Derived.BigRegion
import Derived.ChangeOld
import Derived.Deep.RegionWith
import Derived.DeepKeys4
import Derived.JoinedCond
import Derived.LaidMore
import Derived.Laws.BytesArg
import Derived.Laws.CopyOwn
import Derived.Laws.Externs
import Derived.Laws.IdiomStrings
import Derived.Laws.Tables
import Derived.Lib.AppendStr
import Derived.Lib.AppendZerosOnto
import Derived.Lib.Mul64
import Derived.Lib.SlBytesConst
import Derived.LoopN
import Derived.Maps.OwnSet
import Derived.OpenShut
import Derived.OrdersHeld
import Derived.ProofKit
import Derived.Shelf.Spec.BitsCarry
import Derived.ShutString
import Derived.Test.YtdhgpkdjdmlphaaGreatProg
import Derived.Test.YtdhgpkdjdmlphaaGreatRows
import Derived.WalkKit
import Derived.WalkLawsBesides
import Derived.WalkSpells
import Derived.Test.YtdhgpkdjdmlphaaGreatUJ
import Derived.Test.YtdhgpkdjdmlphaaGreatUN
import Derived.Test.YtdhgpkdjdmlphaaGreatUP
import Derived.Test.YtdhgpkdjdmlphaaGreatUQ
open Bool renaming or_eq_true → QH4
open List renaming replicate → QGn, getElem?_cons_succ → QGo, getElem?_cons_zero → QGp, getD_eq_getElem?_getD → QGq, length_map → QGr, getElem?_eq_getElem → QGt, cons_append → QGu, nil_append → QGv, setIfInBounds_toArray → QGw, length_append → QGy, set_cons_zero → QGz, length_replicate → QGA, set_cons_succ → QGB, map_toArray → QGC, take_of_length_le → QGD, getElem?_append_right → QGE, getElem?_map → QGF, getElem?_append_left → QGG, map_nil → QGH, append_assoc → QGI, mem_cons → QGJ, not_mem_nil → QGK, length_take → QGP, length_drop → QGQ, map_cons → QGR, length_set → QGV, append_nil → QGW, take_succ_eq_append_getElem → QGY, range → QG0, set_append_right → QG1, mem_map → QG2, map_append → QG6, eq_nil_of_length_eq_zero → QG7, map_replicate → QG8, mem_append → QHd, length_cons → QHe, mem_range → QHg, getElem_mem → QHi, drop_of_length_le → QHj, drop_eq_getElem_cons → QHw, getElem?_drop → QHA, flatMap_cons → QHB, getElem?_eq_none → QHF, getElem?_take → QHJ, mem_singleton → QHO, getElem_of_mem → QHQ, getElem?_set_self → QHS, any_eq_true → QHV, replicate_succ → QH2, flatMap_append → QH3, range_succ → QH5, drop_zero → QIk, length_singleton → QIE, any_eq_false → QIK, map_set → QIP
open Nat renaming le_refl → QGx, lt_of_lt_of_le → QGN, mod_eq_of_lt → QGO, zero_add → QGT, mod_lt → QGU, le_trans → QG9, lt_or_ge → QHb, sub_self → QHG, eq_zero_or_pos → QH8, add_zero → QIf, le_of_eq → QIs
open Option renaming toList_some → QGs, bind_some → QHN, map_eq_some_iff → QIg, getD_some → QIl
set_option linter.all false
namespace Go.Proofs.YtdhgpkdjdmlphaaGreat
open Go.RowKit
open Go.BigFrame
abbrev emC (tk:Int) (id:UInt64) (B:Option Addr) (m e:Nat):List Value:=[.int .i64 tk,W64 id,.slice B m e]
section
variable {P:Program} {ops:Array Oper} {rest:List Oper} {o:Oper} {a:Act} {w:World} {Q:Exit→Act→World→Prop} {t:TypeId}
theorem go_b {p:Array (Nat×Operand)} (_ho:o.op= .build t p) (h:wpList P ops Q (o :: rest) a w):wpList P ops Q (o :: rest) a w:=h
theorem go_s {p:Array (Nat×Operand)} (_ho:o.op= .buildSlice t 1 p) (h:wpList P ops Q (o :: rest) a w):wpList P ops Q (o :: rest) a w:=h
theorem go_a {s x:Operand} (_ho:o.op= .call { callee:=.builtin .append,args:= #[s,x],argTypes:= #[t,t] }) (h:wpList P ops Q (o :: rest) a w):wpList P ops Q (o :: rest) a w:=h
theorem go_l {x:Operand} (_ho:o.op= .load t x) (h:wpList P ops Q (o :: rest) a w):wpList P ops Q (o :: rest) a w:=h
theorem Qa1 {x y:Operand} (_ho:o.op= .store t x y) (h:wpList P ops Q (o :: rest) a w):wpList P ops Q (o :: rest) a w:=h
end
theorem Qty (xs:List Nod):QbH [0,QaG xs]=QaG xs∧QbH [2,QaG xs]=2:=by
 have h:QaG xs=0∨2≤QaG xs:=by
  unfold QaG
  split
  ·exact .inr (by omega)
  split
  ·exact .inr (by omega)
  split
  ·exact .inr (by omega)
  ·exact .inl rfl
 generalize QaG xs=x at *
 unfold QbH
 simp only[List.foldl_cons,List.foldl_nil]
 rcases h with rfl|h
 ·exact⟨rfl,rfl⟩
 ·have hx:x≠0:=by omega
  have h2: ¬x<2:=by omega
  exact⟨by simp[hx],by simp[hx,h2]⟩
theorem Qt0 (A:Option Addr) (n c:Nat):Tryz.prog.built 119 [(0,.slice A n c)]=some (tr1 A n c none 0 0 0).toArray:=by kernel_rfl
theorem QlA {ops:Array Oper} {o:Oper} {a:Act} (hw:Region.wanted o (yielded ops a.tmps)=true) (ho:o.op= .alloc 68):
 Makes Tryz.prog ops o (fun g=>.pointer (some ⟨g,0,none⟩)) (.cells Tryz.zeroCells68 68) a:=
 ⟨hw,fun w=>by
   unfold execOp
   rw[ho]
   simp[go_sem]⟩
set_option maxRecDepth 100000 in
theorem Qin (x:Nod) (w:World):
 Calls Tryz.prog 33 #[.agg (NC x).toArray] w fun e w'=>∃g,e= .returned (.slice (some ⟨g,0,none⟩) 32 32)∧w.heap.size≤g∧Blk w' g 5 (x.priv.val.map W8)∧Later w w':=by
 have hb0:Blk (w.alloc (.cells (NC x).toArray 86)) w.heap.size 86 (NC x):=Blk.new _ _ _
 have hc:∀j v,(x.priv.val.map W8)[j]?=some v→(w.alloc (.cells (NC x).toArray 86)).cell? ⟨w.heap.size,2+j,none⟩=some v:=fun j v hv=>hb0.cellD _ (Qvu x hv)
 go_enter Tryz.func33,Tryz.ntmps33
 go_wp2_with (first
  | (refine QpD rfl _ rfl hc x.priv.2 rfl ?_)
  | fail)
 (with_reducible refine (Qi9 x.priv.val x.priv.2 _).mono ?_);rintro e w2 ⟨g2,rfl,hg2,hb2,l2⟩
 go_wp2
 go_ret
 exact⟨g2,rfl,by simp at hg2;omega,hb2,(Qaa _ _).trans l2⟩
theorem QFV {a:Int} {d:Nat} (h:0≤a):0≤a+(d:Int):=by omega
theorem QF8 {a:Int} {d n:Nat} (h:a≤1099511627776+(n:Int)*4294967296) (hd:d<4294967296):a+(d:Int)≤1099511627776+((n+1:Nat):Int)*4294967296:=by omega
set_option maxRecDepth 100000 in
set_option maxHeartbeats 4000000 in
theorem QsF (A B:Option Addr) (n c m e:Nat) (xs:List Nod) (tk:Int) (id:UInt64) (b:List UInt8) (w:World) (hx:RdN w A n xs) (hn:n≤1048576) (hs:∀x∈xs,x.nm.size≤140737488355328) (hb:RdB w B m b) (hme:m≤e):
 Calls Tryz.prog 83 #[.slice A n c,.agg (emC tk id B m e).toArray] w fun x w'=>∃A' c' B' c2,x= .returned (.tuple #[.agg (tr1 A' (QbZ xs tk id b).vs.length c' B' (QbZ xs tk id b).bd.length c2 (QbZ xs tk id b).tk).toArray,.int .i64 ((QbZ xs tk id b).er:Nat)])∧
  RdF VC 22 vst0 w' A' (QbZ xs tk id b).vs.length (QbZ xs tk id b).vs∧OwnB w' w.heap.size B' (QbZ xs tk id b).bd.length c2 (QbZ xs tk id b).bd∧Later w w':=by
 have hbl:=hb.len
 have C1:=Qbk w 131 (emC tk id B m e)
 have C2:Bag w ((w.alloc (.cells (emC tk id B m e).toArray 131)).alloc (.cells tz0.toArray 119)) [(w.heap.size+1,119,tz0),(w.heap.size,131,emC tk id B m e)]:=
  C1.add (Qaa _ _) (by simp) (by omega) (Blk.new' _ _ tz0 (by simp))
 have e0:=(C2.nth 1 rfl).cellD 0 (u:=.int .i64 tk) rfl
 have e2:=(C2.nth 1 rfl).cellD 2 (u:=.slice B m e) rfl
 have hz:=hid Qui
 have hbt:=hid Qt0
 have hbv:=hid Qwz
 have hE0:Hid (Qi1 tk b xs≠0→QbZ xs tk id b=⟨[],[],0,Qi1 tk b xs⟩):=hid (fun h=>if_pos h)
 have hE1:Hid (Qi1 tk b xs=0→QbZ xs tk id b=Qgk xs 16 id tk b []):=hid (fun h=>if_neg (not_not_intro h))
 have hCk:=hid (fun w h=>QkO A n c xs w h (by omega) hs)
 obtain⟨l0,l2⟩:=Qty xs
 generalize QbZ xs tk id b=R at *
 by_cases ht:tk<0∨1099511627776<tk
 ·have hE:Qi1 tk b xs=1:=if_pos ht
  have hR:=hE0.out (by rw[hE];decide)
  rw[hE]at hR
  replace hR:=hid hR
  clear hE hE0 hE1 hCk l0 l2
  by_cases h0:tk<0
  ·have f0:decide (tk<0)=true:=decide_eq_true h0
   clear ht h0
   go_enter Tryz.func83,Tryz.ntmps83
   go_wp2_with (first
    | (refine go_b rfl ?_;refine Qah ?hw 119 _ rfl tz0 (by simp only[QGC,QGH];exact hz.out) ?_;(case hw=>rfl))
    | (refine Qa1 rfl ?_;refine Qai rfl rfl _ _ _ rfl (w.heap.size+1) _ _ tz0 (C2.nth 0 rfl) rfl rfl 3 Qdh rfl rfl QpL ?_;intro w5 hb5 ho5)
    | fail)
   exact bodyPost_ret (Qac rfl _ _ _ _ _ _ hb5 rfl Tryz.underlying119 rfl Qdh) rfl ⟨none,0,none,0,by rw[hR.out];rfl,by rw[hR.out];exact Qfo _,by rw[hR.out];exact Qbi _ _ _,C2.lat.only ho5 (by omega)⟩
  ·have f0:decide (tk<0)=false:=decide_eq_false h0
   have f1:decide (1099511627776<tk)=true:=decide_eq_true (ht.resolve_left h0)
   clear ht h0
   go_enter Tryz.func83,Tryz.ntmps83
   go_wp2_with (first
    | (refine go_b rfl ?_;refine Qah ?hw 119 _ rfl tz0 (by simp only[QGC,QGH];exact hz.out) ?_;(case hw=>rfl))
    | (refine Qa1 rfl ?_;refine Qai rfl rfl _ _ _ rfl (w.heap.size+1) _ _ tz0 (C2.nth 0 rfl) rfl rfl 3 Qdh rfl rfl QpL ?_;intro w5 hb5 ho5)
    | fail)
   exact bodyPost_ret (Qac rfl _ _ _ _ _ _ hb5 rfl Tryz.underlying119 rfl Qdh) rfl ⟨none,0,none,0,by rw[hR.out];rfl,by rw[hR.out];exact Qfo _,by rw[hR.out];exact Qbi _ _ _,C2.lat.only ho5 (by omega)⟩
 have f0:decide (tk<0)=false:=decide_eq_false (fun h=>ht (.inl h))
 have f1:decide (1099511627776<tk)=false:=decide_eq_false (fun h=>ht (.inr h))
 have HZ:=hid zcP
 have hZl:(QGn 768 (0:UInt8)).length=768:=QGA
 have hZl1:((QGn 768 (0:UInt8)).map W8).length=768:=by rw[QGr,hZl]
 obtain⟨PK,se,hPK,hE,hs0,hPa⟩:∃(PK:List UInt8) (se:Nat),PK.length=768∧Qi1 tk b xs=QbH [se,QaG xs]∧(QbH [se,QaG xs]=0→PK=b)∧Hid (∀ w,RdB w B m b→Calls Tryz.prog 14 #[.slice B m e] w fun x w'=>x= .returned (.tuple #[.agg (PK.map W8).toArray,.int .i64 (se:Nat)])∧Later w w'):=by
  by_cases h:m=768
  ·subst h
   exact⟨b,0,hbl,by rw[Qi1,if_neg ht,if_pos hbl],fun _=>rfl,hid (fun w h=>Qsw B e b w h hme)⟩
  ·exact⟨QGn 768 0,2,hZl,by rw[Qi1,if_neg ht,if_neg (by rw[hbl];exact h)],fun h=>absurd (l2.symm.trans h) (by decide),hid (fun w _=>QrX B m e w h)⟩
 rw[hE]at hE0 hE1
 generalize QGn 768 (0:UInt8)=Z at *
 have hLe:=hid (fun g (w:World) h=>Qe5 (some ⟨g,0,none⟩) 2 2 [se,QaG xs] w h (by omega))
 clear hE l0 l2 ht
 generalize QbH [se,QaG xs]=E at *
 generalize hCN:QaG xs=CN at *
 clear hCN
 go_enter Tryz.func83,Tryz.ntmps83
 go_wp2_with fail
 refine (hPa.out _ (hb.later C2.lat)).mono ?_
 rintro x w2 ⟨rfl,j2⟩
 have C3:=C2.later j2
 go_wp2_with (first
  | (refine Qa1 rfl ?_;refine Qbd rfl rfl _ _ rfl ((Blk.new w2 _ Tryz.zeroCells37.toList).cast HZ.out) rfl rfl hPK hZl1 ?_;intro w3 hb3 ho3
     have l3:Later w2 w3:=(Qaa w2 _).only ho3 (QGx _)
     have C4:=C3.fresh l3 (QGx _) hb3)
  | fail)
 refine (hCk.out _ (hx.later C4.lat)).mono ?_
 rintro x w4 ⟨rfl,j4⟩
 have C5:=C4.later j4
 go_wp2_with fail
 have C6:=C5.later (Qaa w4 (.cells [eVM se,eVM CN].toArray 27))
 have hrd:Rd (w4.alloc (.cells [eVM se,eVM CN].toArray 27)) (some ⟨w4.heap.size,0,none⟩) 2 ([se,CN].map eVM):=(Blk.new w4 27 [eVM se,eVM CN]).rd rfl
 refine (hLe.out w4.heap.size _ hrd).mono ?_
 rintro x w5 ⟨rfl,j5⟩
 have C7:=C6.later j5
 have hlat7:=C7.lat
 clear hrd C3 C4 C5 C6 e0 e2 hb3 ho3 hPa hCk hLe
 by_cases hE:E=0
 case neg=>
  have hR:=hid (hE0.out hE)
  have fE:((E:Int) != 0)=true:=bne_iff_ne.2 (by omega)
  clear hE hE0 hE1 hs0
  go_wp2_with (first
   | (refine go_b rfl ?_;refine Qah ?hw 119 _ rfl tz0 (by simp only[QGC,QGH];exact hz.out) ?_;(case hw=>rfl))
   | (refine Qa1 rfl ?_;refine Qai rfl rfl _ _ _ rfl (w.heap.size+1) _ _ tz0 (C7.nth 1 rfl) rfl rfl 3 Qdh rfl rfl QpL ?_;intro w6 hb6 ho6)
   | fail)
  exact bodyPost_ret (Qac rfl _ _ _ _ _ _ hb6 rfl Tryz.underlying119 rfl Qdh) rfl ⟨none,0,none,0,by rw[hR.out];rfl,by rw[hR.out];exact Qfo _,by rw[hR.out];exact Qbi _ _ _,C7.lat.only ho6 (by omega)⟩
 have hR:=hid (hE1.out hE)
 obtain rfl:=hs0 hE
 subst hE
 clear hE0 hE1 hs0
 go_wp2_with fail
 have C8:Bag w (w5.alloc (.cells tz0.toArray 119)) [(w5.heap.size,119,tz0),(w2.heap.size,37,PK.map W8),(w.heap.size+1,119,tz0),(w.heap.size,131,emC tk id B m e)]:=C7.fresh (Qaa _ _) (QGx _) (Blk.new _ _ _)
 have n69:w2.heap.size≠w5.heap.size:=by
  have:=(C7.nth 0 rfl).lt
  omega
 generalize w5.heap.size=g9 at *
 generalize w2.heap.size=g6 at *
 generalize w5.alloc (.cells tz0.toArray 119)=W at *
 have e0:=(C8.nth 3 rfl).cellD 0 (u:=.int .i64 tk) rfl
 have e1:=(C8.nth 3 rfl).cellD 1 (u:=W64 id) rfl
 clear C7 hlat7
 refine Qaf [] [0,1,2,3,4,5] [] (by as_aux_lemma=>kernel_rfl) (by as_aux_lemma=>kernel_rfl) (by intro _ _ d _ _ h;cases d<;>exact h) ?_
 simp only[Qaj,pick,QGo,QGp,QGs,QGu,QGv]
 repeat (go_big_quiet_step (fail))
 refine wpQuiet_nil ?_
 go_wp2_with fail
 have ht0:0≤tk∧tk≤1099511627776:=by
  have a1:=of_decide_eq_false f0
  have a2:=of_decide_eq_false f1
  omega
 clear f0 f1
 go_loopw [10,11] (fun v10 v11 wr=>∃(k:Nat) (id2:UInt64) (tk2:Int) (p:List UInt8) (vs:List Vst) (A2:Option Addr) (c2:Nat),v10=W64 id2∧v11= .int .i64 tk2∧vs.length+k=16∧p.length=768∧0≤tk2∧tk2≤1099511627776+(vs.length:Int)*4294967296∧
  Bag w wr [(g9,119,tr1 A2 vs.length c2 none 0 0 0),(g6,37,p.map W8),(w.heap.size+1,119,tz0),(w.heap.size,131,emC tk id B m e)]∧wr.ownsRow w.heap.size 187 22 (.slice A2 vs.length c2) vs.length (vs.flatMap VC)∧Hid (R=Qgk xs k id2 tk2 p vs)) (fun _ _ w'=>match w'.cell? ⟨g9,0,none⟩ with|some (.slice _ n _)=>16-n|_=>0)
 case atStart=>exact⟨16,id,tk,PK,[],none,0,rfl,rfl,rfl,hPK,ht0.1,by simp;omega,C8.drew,⟨by simp,.inl ⟨rfl,rfl⟩⟩,hR⟩
 case round=>
  clear C8 hR ht0 e0 e1
  obtain⟨k,id2,tk2,p,vs,A2,c2,rfl,rfl,hvk,hpl,ht2,ht3,C,hown,hR⟩:=hrel
  have z0:=(C.nth 0 rfl).cellD 0 (u:=.slice A2 vs.length c2) rfl
  rcases k with _|k
  ·have f16:((vs.length:Int)==16)=true:=beq_iff_eq.2 (by omega)
   have hR0:R=⟨vs,[],0,11⟩:=hR.out
   replace hR0:=hid hR0
   clear hR
   go_wp2_with (first
    | (refine go_b rfl ?_;refine Qah ?hw 119 _ rfl (tr1 A2 vs.length c2 none 0 0 0) (by simp only[QGC,QGR,QGH];exact hbt.out _ _ _) ?_;(case hw=>rfl))
    | (refine Qa1 rfl ?_;refine Qai rfl rfl _ _ _ rfl (w.heap.size+1) _ _ (tr1 A2 vs.length c2 none 0 0 0) (C.nth 2 rfl) rfl rfl 3 Qdh rfl rfl (Qhs _ _ _ _ _ _ _) ?_;intro w6 hb6 ho6)
    | fail)
   have own6:=QaV hown (C.nth 2 rfl) (by decide) ho6
   exact bodyPost_ret (Qac rfl _ _ _ _ _ _ hb6 rfl Tryz.underlying119 rfl Qdh) rfl ⟨A2,c2,none,0,by rw[hR0.out];rfl,by rw[hR0.out];exact QdO (d:=vst0) QaP own6 rfl,by rw[hR0.out];exact Qbi _ _ _,C.lat.only ho6 (by omega)⟩
  have f16:((vs.length:Int)==16)=false:=beq_eq_false_iff_ne.2 (by omega)
  have hAt:=hid (fun w h=>QAi A n c xs id2 w h (by omega) hs)
  have r1:=hid (fun h=>hR.out.trans (Qsx (xs:=xs) (k:=k) (id:=id2) (tk:=tk2) (p:=p) (vs:=vs) h))
  have r2:=hid (fun h h1=>hR.out.trans (Qsi (xs:=xs) (k:=k) (id:=id2) (tk:=tk2) (p:=p) (vs:=vs) h h1))
  have r3:=hid (fun h h1 h2=>hR.out.trans (QnO (xs:=xs) (k:=k) (id:=id2) (tk:=tk2) (p:=p) (vs:=vs) h h1 h2))
  have r4:=hid (fun h h1 h2=>hR.out.trans (Qqj (xs:=xs) (k:=k) (id:=id2) (tk:=tk2) (p:=p) (vs:=vs) h h1 h2))
  clear hR
  generalize (QbA (byId id2) xs).2=FE at *
  generalize (QbA (byId id2) xs).1=FN at *
  go_wp2_with fail
  refine (hAt.out wr (hx.later C.lat)).mono ?_
  rintro x x1 ⟨rfl,i1⟩
  have D1:=C.later i1
  have own1:=QaB hown i1
  have hz0:=hid z0
  clear hAt z0
  by_cases hFE:FE≠0
  ·have fE:((FE:Int) != 0)=true:=bne_iff_ne.2 (by omega)
   have hR0:=hid (r1.out hFE)
   clear r1 r2 r3 r4 hFE
   go_wp2_with (first
    | (refine Qa1 rfl ?_;refine QdI QeN rfl rfl _ _ rfl (Blk.new x1 _ (NC nod0)) rfl rfl (Qas _) ?_;intro x2 hb2 ho2
       have l2:Later x1 x2:=(Qaa x1 _).only ho2 (QGx _)
       have D2:=D1.later l2
       have z2:=(D2.nth 0 rfl).cellD 0 (u:=.slice A2 vs.length c2) rfl)
    | (refine go_b rfl ?_;refine Qah ?hw 119 _ rfl (tr1 A2 vs.length c2 none 0 0 0) (by simp only[QGC,QGR,QGH];exact hbt.out _ _ _) ?_;(case hw=>rfl))
    | (refine Qa1 rfl ?_;refine Qai rfl rfl _ _ _ rfl (w.heap.size+1) _ _ (tr1 A2 vs.length c2 none 0 0 0) (D2.nth 2 rfl) rfl rfl 3 Qdh rfl rfl (Qhs _ _ _ _ _ _ _) ?_;intro w6 hb6 ho6)
    | fail)
   have own6:=QaV (QaB own1 l2) (D2.nth 2 rfl) (by decide) ho6
   exact bodyPost_ret (Qac rfl _ _ _ _ _ _ hb6 rfl Tryz.underlying119 rfl Qdh) rfl ⟨A2,c2,none,0,by rw[hR0.out];rfl,by rw[hR0.out];exact QdO (d:=vst0) QaP own6 rfl,by rw[hR0.out];exact Qbi _ _ _,D2.lat.only ho6 (by omega)⟩
  replace r2:=hid (r2.out hFE)
  replace r3:=hid (r3.out hFE)
  replace r4:=hid (r4.out hFE)
  obtain rfl:FE=0:=Classical.not_not.1 hFE
  clear r1 hFE
  go_wp2_with (first
   | (refine Qa1 rfl ?_;refine QdI QeN rfl rfl _ _ rfl (Blk.new x1 _ (NC nod0)) rfl rfl (Qas _) ?_;intro x2 hb2 ho2
      have l2:Later x1 x2:=(Qaa x1 _).only ho2 (QGx _)
      have D2:=D1.fresh l2 (QGx _) hb2
      have own2:=QaB own1 l2)
   | fail)
  generalize x1.heap.size=gn at *
  have hUn:=hid (fun A2 c2 w h=>QrQ A2 32 c2 FN.priv.val p w h (by omega) hpl)
  have hPv:=hid (fun w=>Qin FN w)
  clear hb2 ho2 l2 D1 own1 i1 C hown
  have hUP:=QiM FN.priv.val p hpl
  have HZp:=hid zcPe
  have hzl:(PC cmd0 z768 nil8).length=789:=Qb1 _ QaT _
  generalize unwE FN.priv.val p=UE at *
  generalize unwC FN.priv.val p=UC at *
  generalize unwP FN.priv.val p=UP at *
  generalize unwB FN.priv.val p=UB at *
  refine QaC [0,2] [([],1,1),([],1,3),([4,5,6],2,7)] [] [8,9] [7] (fun _=>(fun g=>.pointer (some ⟨g,0,none⟩),.cells Tryz.zeroCells68 68)) (by as_aux_lemma=>kernel_rfl) (by as_aux_lemma=>kernel_rfl) (by intro _ _ d _ _ h;cases d<;>exact h) (by intro _ _ d _ _ h;cases d<;>exact h) ?_
  simp only[pick,QGo,QGp,QGs,QGu,QGv]
  repeat (first|go_big_quiet_skip|(go_big_quiet_want;(first|refine Qpb _ rfl (fun i v hv=>by rw[QGT];exact (D2.drew.nth 0 rfl).cellD i hv) (D2.drew.nth 0 rfl).lt rfl ?_|refine Qe7 _ _ rfl 0 (p.map W8) (D2.drew.nth 2 rfl) rfl (fun j v hv=>by rw[QGT];exact hv) _ Tryz.underlying37 rfl (by rw[QGr,hpl];exact Qcb) ?_);simp only[Act.put,QGw,QGB,QGz];go_big_quiet_on)|(go_big_quiet_step (fail)))
  refine wpQuiet_nil ?_
  refine⟨?mk,?_⟩
  case mk=>
   refine⟨fun o ho=>?_,trivial⟩
   simp only[QGo,QGp,Option.some.injEq]at ho
   subst ho
   exact QlA rfl rfl
  simp only[Qbu,pick,QGo,QGp,QGs,QGu,QGv]
  refine wpQuiet_nil ?_
  intro m1 j1'
  go_wp2_with fail
  refine (hPv.out _).mono ?_
  rintro x m2 ⟨gk,rfl,hgk,hbk,j2'⟩
  go_wp2_with fail
  try refine⟨by first|assumption|exact Qab _|exact Qaa _ _|exact Later.refl _,?_⟩
  try simp only[Qaj,pick,QGo,QGp,QGs,QGu,QGv]
  repeat (go_big_quiet_step (fail))
  refine wpQuiet_nil ?_
  intro m3 j3'
  go_wp2_with fail
  refine (hUn.out _ _ _ (Qcv (hbk.later j3') FN.priv.2)).mono ?_
  rintro x m4 ⟨AB,cB,rfl,ownB,j4'⟩
  go_wp2_with fail
  try refine⟨by first|assumption|exact Qab _|exact Qaa _ _|exact Later.refl _,?_⟩
  try simp only[Qaj,pick,QGo,QGp,QGs,QGu,QGv]
  repeat (go_big_quiet_step (fail))
  refine wpQuiet_nil ?_
  intro m5 gp j5' hgp _ hbp
  refine wpQuiet_nil ?_
  intro m6 j6'
  simp only[QGo,QGp,QHN,Act.put,QGw,QGB,QGz]
  have hB6:Blk m6 gp 68 (PC cmd0 z768 nil8):=(Blk.later (show Blk m5 gp _ Tryz.zeroCells68.toList from hbp) j6').cast HZp.out
  have jj:=((j1'.trans j2').trans (j3'.trans j4')).trans (j5'.trans j6')
  have ownB6:=Qcq (QaF ownB (j5'.trans j6')) (QG9 D2.lat.size (QG9 (Qab x2).size ((j1'.trans j2').trans j3').size))
  have own6:=QaB own2 ((Qab x2).trans jj)
  have D6:=D2.drew.fresh jj hgp hB6
  clear hbk hgk ownB j1' j2' j3' j4' j5' j6' hbp hB6 jj D2 own2 hUn hPv
  by_cases hUE:UE≠0
  ·have fU:((UE:Int) != 0)=true:=bne_iff_ne.2 (by omega)
   have hR0:=hid (r2.out hUE)
   clear r2 r3 r4 hUE
   go_wp2_with (first
    | (refine Qa1 rfl ?_;refine QeB rfl rfl _ _ rfl (D6.nth 0 rfl) rfl rfl hUP rfl hzl ?_;intro m7 hb7 ho7
       have D7:=D6.write 0 rfl ho7 hb7
       have own7:=QaV own6 (D6.nth 0 rfl) (by decide) ho7
       have z2:=(D7.nth 2 rfl).cellD 0 (u:=.slice A2 vs.length c2) rfl)
    | (refine go_b rfl ?_;refine Qah ?hw 119 _ rfl (tr1 A2 vs.length c2 none 0 0 0) (by simp only[QGC,QGR,QGH];exact hbt.out _ _ _) ?_;(case hw=>rfl))
    | (refine Qa1 rfl ?_;refine Qai rfl rfl _ _ _ rfl (w.heap.size+1) _ _ (tr1 A2 vs.length c2 none 0 0 0) (D7.nth 4 rfl) rfl rfl 3 Qdh rfl rfl (Qhs _ _ _ _ _ _ _) ?_;intro m8 hb8 ho8)
    | fail)
   have own8:=QaV own7 (D7.nth 4 rfl) (by decide) ho8
   exact bodyPost_ret (Qac rfl _ _ _ _ _ _ hb8 rfl Tryz.underlying119 rfl Qdh) rfl ⟨A2,c2,none,0,by rw[hR0.out];rfl,by rw[hR0.out];exact QdO (d:=vst0) QaP own8 rfl,by rw[hR0.out];exact Qbi _ _ _,D7.lat.only ho8 (by omega)⟩
  replace r3:=hid (r3.out hUE)
  replace r4:=hid (r4.out hUE)
  obtain rfl:UE=0:=Classical.not_not.1 hUE
  clear r2 hUE
  go_wp2_with (first
   | (refine Qa1 rfl ?_;refine QeB rfl rfl _ _ rfl (D6.nth 0 rfl) rfl rfl hUP rfl hzl ?_;intro m7 hb7 ho7
      have D7:=D6.write 0 rfl ho7 hb7
      have own7:=QaV own6 (D6.nth 0 rfl) (by decide) ho7
      have ownB7:=QaV ownB6 (D6.nth 0 rfl) (by decide) ho7
      have z2:=(D7.nth 2 rfl).cellD 0 (u:=.slice A2 vs.length c2) rfl)
   | (refine go_l rfl ?_;refine Qan ?hw _ _ rfl gp 0 (CC UC) (fun j v hv=>(D7.nth 0 rfl).cellD (0+j) (QnY _ _ _ j v hv)) rfl _ Tryz.underlying66 rfl (by rw[Qao];exact Ql7) ?_;(case hw=>rfl))
   | (refine go_b rfl ?_;refine Qah ?hw 187 _ rfl (VC ⟨UC,id2,tk2⟩) (by simp only[QGC,QGR,QGH];exact hbv.out ⟨UC,id2,tk2⟩) ?_;(case hw=>rfl))
   | (refine go_s rfl ?_;refine Qc1 ?hw 117 _ rfl 187 22 _ (VC ⟨UC,id2,tk2⟩) Tryz.underlying117 QBx (by omega) (by omega) (QaP _) rfl ?_;(case hw=>rfl))
   | (refine go_a rfl ?_;refine Qci (F:=VC) (d:=vst0) QaP QyI (by omega) rfl _ _ _ rfl 187 _ 48 Tryz.underlying117 QCH rfl w _ _ _ (QaB own7 (Qaa _ _)) (D7.lat.trans (Qaa _ _)) (some ⟨m7.heap.size,0,none⟩) 1 1 [⟨UC,id2,tk2⟩] (QhG QaP (show Blk (m7.alloc (.cells (VC ⟨UC,id2,tk2⟩).toArray 187)) m7.heap.size 187 ([(⟨UC,id2,tk2⟩:Vst)].flatMap VC) by simp only[QHB,List.flatMap_nil,QGW];exact Blk.new m7 _ _) rfl) rfl rfl (by omega) (by omega) ?_;intro A8 c8 m8 hown8 hl8 hg8
      have hr8:=QaB own7 (Qaa m7 (.cells (VC ⟨UC,id2,tk2⟩).toArray 187))
      have D8:=(D7.later (Qaa m7 (.cells (VC ⟨UC,id2,tk2⟩).toArray 187))).grown hr8 (Qx2 (by simp)) (QGx _) hg8
      have ownB8:=QcI (QaF ownB7 (Qaa m7 (.cells (VC ⟨UC,id2,tk2⟩).toArray 187))) hr8 (by decide) hg8)
   | (refine Qa1 rfl ?_;refine Qad rfl rfl _ _ _ rfl g9 0 _ _ (D8.nth 2 rfl) rfl (by simp) rfl (by kernel_rfl) ?_;intro v9 m9 hv9 hb9 ho9;simp[go_sem]at hv9;subst hv9
      have D9:=D8.write 2 rfl ho9 hb9)
   | (refine go_l rfl ?_;refine Qan ?hw _ _ rfl gp 0 (CC UC) (fun j v hv=>(D9.nth 0 rfl).cellD (0+j) (QnY _ _ _ j v hv)) rfl _ Tryz.underlying66 rfl (by rw[Qao];exact Ql7) ?_;(case hw=>rfl))
   | fail)
  have own9:=QaV hown8 (D8.nth 2 rfl) (by decide) ho9
  have ownB9:=QaV ownB8 (D8.nth 2 rfl) (by decide) ho9
  clear D6 D7 D8 own6 own7 ownB6 ownB7 ownB8 hown8 hr8 hg8 hl8 ho7 hb7 ho9 hb9 z2
  refine (QxK UC m9).mono ?_
  rintro x n1 ⟨rfl,i1⟩
  have E1:=D9.later i1
  have hdl:=UC.dl.toNat_lt
  go_wp2_with (first
   | (refine go_l rfl ?_;refine Qan ?hw _ _ rfl gp 0 (CC UC) (fun j v hv=>(E1.nth 0 rfl).cellD (0+j) (QnY _ _ _ j v hv)) rfl _ Tryz.underlying66 rfl (by rw[Qao];exact Ql7) ?_;(case hw=>rfl))
   | fail)
  refine (Qp5 UC n1).mono ?_
  rintro x n2 ⟨rfl,i2⟩
  have E2:=E1.later i2
  have ownV:=QaB own9 (i1.trans i2)
  have ownT:=QaF ownB9 (i1.trans i2)
  clear i1 i2 E1 D9 own9 ownB9
  have zb:=(E2.nth 0 rfl).cellD 788 (Qz3 UC hUP _)
  by_cases hkd:UC.kd≠1
  ·have fk:(UC.kd==1)=false:=beq_eq_false_iff_ne.2 hkd
   have hR0:=hid (r3.out hkd)
   clear r3 r4 hkd
   go_wp2_with (first
    | (refine Qa1 rfl ?_;refine Qad rfl rfl _ _ _ rfl g9 1 _ _ (E2.nth 2 rfl) rfl (by simp) rfl (by kernel_rfl) ?_;intro v1 k1 hv1 hb1 ho1;simp[go_sem]at hv1;subst hv1
       have E3:=E2.write 2 rfl ho1 hb1
       have oV3:=QaV ownV (E2.nth 2 rfl) (by decide) ho1
       have oT3:=QaV ownT (E2.nth 2 rfl) (by decide) ho1)
    | (refine Qa1 rfl ?_;refine Qad rfl rfl _ _ _ rfl g9 2 _ _ (E3.nth 2 rfl) rfl (by simp) rfl (by kernel_rfl) ?_;intro v2 k2 hv2 hb2 ho2;simp[go_sem]at hv2;subst hv2
       have E4:=E3.write 2 rfl ho2 hb2
       have oV4:=QaV oV3 (E3.nth 2 rfl) (by decide) ho2
       have oT4:=QaV oT3 (E3.nth 2 rfl) (by decide) ho2)
    | (refine go_l rfl ?_;refine Qan ?hw _ _ rfl g9 0 (tr1 A8 (vs.length+1) c8 AB UB.length cB (tk2+(UC.dl.toNat:Int))) (fun j v hv=>by rw[QGT];exact (E4.nth 2 rfl).cellD j hv) rfl _ Tryz.underlying119 rfl Qdh ?_;(case hw=>rfl))
    | (refine Qa1 rfl ?_;refine Qai rfl rfl _ _ _ rfl (w.heap.size+1) _ _ (tr1 A8 (vs.length+1) c8 AB UB.length cB (tk2+(UC.dl.toNat:Int))) (E4.nth 4 rfl) rfl rfl 3 Qdh rfl rfl (Qhs _ _ _ _ _ _ _) ?_;intro k3 hb3 ho3)
    | fail)
   have oV5:=QaV oV4 (E4.nth 4 rfl) (by decide) ho3
   have oT5:=QaV oT4 (E4.nth 4 rfl) (by decide) ho3
   have hvl:(vs++[(⟨UC,id2,tk2⟩:Vst)]).length=vs.length+1:=by simp
   have oV6:k3.ownsRow w.heap.size 187 22 (.slice A8 (vs++[(⟨UC,id2,tk2⟩:Vst)]).length c8) (vs++[(⟨UC,id2,tk2⟩:Vst)]).length ((vs++[(⟨UC,id2,tk2⟩:Vst)]).flatMap VC):=by
    rw[hvl,QH3]
    exact oV5
   exact bodyPost_ret (Qac rfl _ _ _ _ _ _ hb3 rfl Tryz.underlying119 rfl Qdh) rfl ⟨A8,c8,AB,cB,by rw[hR0.out,hvl];rfl,by rw[hR0.out];exact QdO (d:=vst0) QaP oV6 rfl,by rw[hR0.out];exact oT5,E4.lat.only ho3 (by omega)⟩
  ·have fk:(UC.kd==1)=true:=beq_iff_eq.2 (Classical.not_not.1 hkd)
   have hR0:=hid (r4.out hkd)
   clear r3 r4 hkd zb
   have z3:n2.cell? ⟨gp,3,none⟩=some (W64 UC.nx):=(E2.nth 0 rfl).cellD 3 (QnY UC UP _ 3 (W64 UC.nx) rfl)
   have hp1:(p.map W8).length=768:=by rw[QGr,hpl]
   go_wp2_with fail
   refine Qaf [] [0,1,2,3,4,5,6] [7] (by as_aux_lemma=>kernel_rfl) (by as_aux_lemma=>kernel_rfl) (by intro _ _ d _ _ h;cases d<;>exact h) ?_
   simp only[Qaj,pick,QGo,QGp,QGs,QGu,QGv]
   repeat (first|go_big_quiet_skip|(go_big_quiet_want;(refine Qe7 _ _ rfl 20 (UP.map W8) (E2.drew.nth 0 rfl) rfl (QCO _ _ _) _ Tryz.underlying37 rfl (by rw[QGr,hUP];exact Qcb) ?_);simp only[Act.put,QGw,QGB,QGz];go_big_quiet_on)|(go_big_quiet_step (fail)))
   refine wpQuiet_nil ?_
   go_wp2_with (first
    | (refine Qa1 rfl ?_;refine Qbd rfl rfl _ _ rfl (E2.drew.nth 3 rfl) rfl rfl hUP hp1 ?_;intro k1 hb1 ho1)
    | fail)
   have E3:=E2.drew.write 3 rfl ho1 hb1
   have oV3:=QaV (QaB ownV (Qab _)) (E2.drew.nth 3 rfl) (by decide) ho1
   have hvl:(vs++[(⟨UC,id2,tk2⟩:Vst)]).length=vs.length+1:=by simp
   have E4:Bag w k1 [(g9,119,tr1 A8 (vs++[(⟨UC,id2,tk2⟩:Vst)]).length c8 none 0 0 0),(g6,37,UP.map W8),(w.heap.size+1,119,tz0),(w.heap.size,131,emC tk id B m e)]:=by
    rw[hvl]
    exact E3.drop 2
   have oV6:k1.ownsRow w.heap.size 187 22 (.slice A8 (vs++[(⟨UC,id2,tk2⟩:Vst)]).length c8) (vs++[(⟨UC,id2,tk2⟩:Vst)]).length ((vs++[(⟨UC,id2,tk2⟩:Vst)]).flatMap VC):=by
    rw[hvl,QH3]
    exact oV3
   have zn:k1.cell? ⟨g9,0,none⟩=some (.slice A8 (vs++[(⟨UC,id2,tk2⟩:Vst)]).length c8):=(E4.nth 0 rfl).cellD 0 rfl
   refine⟨?_,?_⟩
   ·have q1:(vs++[(⟨UC,id2,tk2⟩:Vst)]).length+k=16:=by rw[hvl];omega
    have q2:0≤tk2+(UC.dl.toNat:Int):=QFV ht2
    have q3:tk2+(UC.dl.toNat:Int)≤1099511627776+((vs++[(⟨UC,id2,tk2⟩:Vst)]).length:Int)*4294967296:=by
     rw[hvl]
     exact QF8 ht3 hdl
    exact⟨k,UC.nx,_,UP,_,A8,c8,rfl,rfl,q1,hUP,q2,q3,E4,oV6,hR0⟩
   ·rw[zn,hz0.out,hvl]
    show 16-(vs.length+1)<16-vs.length
    omega
theorem Bag.perm {w wk:World} {ls ls':List (Nat×TypeId×List Value)} (h:Bag w wk ls) (p:ls.Perm ls'):Bag w wk ls':=
 ⟨h.lat,fun q hq=>h.blk q (p.mem_iff.2 hq),fun q hq=>h.low q (p.mem_iff.2 hq),(p.map _).nodup_iff.1 h.nd⟩
theorem Bag.cast {w wk:World} {ls ls':List (Nat×TypeId×List Value)} (h:Bag w wk ls) (e:ls=ls'):Bag w wk ls':=e ▸ h
def sl32 (b:Nat):Value:=.slice (some ⟨b,0,none⟩) 32 32
def payB (b:Nat) (p:List UInt8):Nat×TypeId×List Value:=(b,5,p.map W8)
def Qev (xs:List (List UInt8)):List (List UInt8):=xs.map fun x=>subB x 64 32
theorem Qc6 (xs:List (List UInt8)):(Qev xs).length=xs.length:=by simp[Qev]
theorem Qi8 (xs:List (List UInt8)) (k:Nat) (h:k<xs.length):(Qev xs).getD k []=subB (xs.getD k []) 64 32:=by
 rw[Qev,QGq,QGF,QGq,QGt h]
 rfl
theorem Qwd (gs:List Nat) (xs:List (List UInt8)) (k b:Nat) (hg:gs.length=k) (h:k<xs.length):
 List.zipWith payB (gs++[b]) ((Qev xs).take (k+1))=List.zipWith payB gs ((Qev xs).take k)++[payB b (subB (xs.getD k []) 64 32)]:=by
 rw[QeM _ k (by rw[Qc6];exact h),Qi8 xs k h,List.zipWith_append (by rw[hg,QGP,Qc6];omega)]
 rfl
theorem QyC (gs:List Nat) (n k b:Nat) (hg:gs.length=k) (h:k<n):
 (gs.map sl32++QGn (n-k) (Value.slice none 0 0)).set k (sl32 b)=(gs++[b]).map sl32++QGn (n-(k+1)) (Value.slice none 0 0):=by
 rw[QG1 _ _ (by rw[QGr];omega),QGr,hg,QHG,show n-k=(n-(k+1))+1 by omega,QH2,QGz,QG6,QGI]
 rfl
theorem RdK.rdB {sz:Nat} {w:World} {A:Option Addr} {n:Nat} {xs:List (List UInt8)} (h:RdK sz w A n xs) {k off m:Nat} (hk:k<n) {r:List UInt8} (hr:subB (xs.getD k []) off m=r) (hm:r.length=m):
 ∃b o,A=some ⟨b,o,none⟩∧b<w.heap.size∧RdB w (some ⟨b,o+k*sz+off,none⟩) m r:=by
 obtain⟨b,o,hA,hb,hc⟩:=h.sub hk
 exact⟨b,o,hA,hb,by rw[QGr,hm],fun _=>⟨b,o+k*sz+off,rfl,hb,fun j v hv=>hc w (Later.refl w) off m r hr j v hv⟩⟩
theorem QCN:(Tryz.prog.info? 22).map (fun i=>(i.zero,i.size,i.bytes))=some (some (.slice none 0 0),1,24):=Qt3
set_option maxRecDepth 100000 in
set_option maxHeartbeats 4000000 in
theorem QwQ (A:Option Addr) (n c:Nat) (xs:List (List UInt8)) (w:World) (hr:RdK 192 w A n xs) (hxl:∀x∈xs,x.length=192) (hn:n≤1048576):
 Calls Tryz.prog 19 #[.slice A n c] w fun e w'=>∃gs:List Nat,e= .returned (.slice (some ⟨w.heap.size,0,none⟩) n n)∧gs.length=n∧
  Bag w w' ((w.heap.size,22,gs.map sl32) :: List.zipWith payB gs (Qev xs)):=by
 have hxn:=hr.1
 go_enter Tryz.func19,Tryz.ntmps19
 go_wp2_with (first
  | (refine QaA rfl _ _ 48 rfl 22 (.slice none 0 0) 24 Tryz.underlying48 QCN rfl _ _ _ _ n rfl rfl rfl rfl (by omega) (by omega) ?_;intro w1 hb1 hl1)
  | fail)
 have B0:Bag w w1 [(w.heap.size,22,QGn n (Value.slice none 0 0))]:=(Bag.none w).add hl1 (by simp) (QGx _) hb1
 clear hb1 hl1
 generalize hg:w.heap.size=g at *
 go_loopw [10] (fun i wr=>∃(k:Nat) (gs:List Nat),k≤n∧i= .int .i64 k∧gs.length=k∧Bag w wr ((g,22,gs.map sl32++QGn (n-k) (Value.slice none 0 0)) :: List.zipWith payB gs ((Qev xs).take k))) (fun i _=>n-(intOf i).toNat)
 case atStart=>exact⟨0,[],by omega,rfl,rfl,B0⟩
 case round=>
  clear B0
  obtain⟨k,gs,hk,rfl,hgl,B1⟩:=hrel
  by_cases hlt:k<n
  ·have hTl:(xs.getD k []).length=192:=hxl _ (Qd8 xs k (by omega))
   obtain⟨b,o,rfl,hb,hrd⟩:=(hr.later B1.lat).rdB (k:=k) (off:=64) (m:=32) hlt rfl (Qaq (by omega))
   have hps:=hid (fun b=>Qwd gs xs k b hgl (by omega))
   have hpl:(subB (xs.getD k []) 64 32).length=32:=Qaq (by omega)
   have hll:(gs.map sl32++QGn (n-k) (Value.slice none 0 0)).length=n:=by rw[QGy,QGr,QGA];omega
   generalize hR:subB (xs.getD k []) 64 32=p at *
   have HR:=hid hR
   clear hR hrd
   generalize hL:gs.map sl32++QGn (n-k) (Value.slice none 0 0)=L0 at *
   have hput:putB (QGn 32 (0:UInt8)) 0 p=p:=QlX _ _ (by simp[hpl])
   have hz32:(QGn 32 (0:UInt8)).length=32:=by simp
   have hzm:(QGn 32 (Value.int .u8 0))=(QGn 32 (0:UInt8)).map W8:=by rw[QG8];rfl
   generalize QGn 32 (0:UInt8)=Z at *
   have HP:=hid hput
   have HZ:=hid hzm
   have hns:=hid (fun b=>show L0.set k (sl32 b)=(gs++[b]).map sl32++QGn (n-(k+1)) (Value.slice none 0 0) by rw[←hL,QyC gs n k b hgl hlt])
   clear hput hzm hL
   go_wp2_with (first
    | (refine QaA rfl _ _ 22 rfl 5 (.int .u8 0) 1 Tryz.underlying22 Qc4 rfl _ _ _ _ 32 rfl rfl rfl rfl (by omega) (by omega) ?_;intro w2 hb2 hl2
       have B2:=(B1.later hl2).add (Later.refl w2) (k:=wr.heap.size) (by intro q hq;have:=(B1.blk q hq).lt;omega) B1.lat.size (hb2.cast HZ.out))
    | (refine Qad rfl rfl _ _ _ rfl g k 22 L0 (B2.nth 1 rfl) rfl (by omega) rfl (by kernel_rfl) ?_;intro v w3 hv hb3 ho3;simp[go_sem]at hv;subst hv
       have B3:=(B2.write 1 rfl ho3 hb3).drew)
    | fail)
   have d0:=(B3.nth 1 rfl).cellD k (u:=.slice (some ⟨wr.heap.size,0,none⟩) 32 32) (by rw[QHS (by omega)])
   obtain⟨b',o',e,_,hrd3⟩:=(hr.later B3.lat).rdB (k:=k) (off:=64) (m:=32) hlt (HR.out) hpl
   cases e
   go_wp2_with fail
   refine Qaf [] [0,1,2,3,4,5,6,7,8,9] [10] (by as_aux_lemma=>kernel_rfl) (by as_aux_lemma=>kernel_rfl) (by intro _ _ d _ _ h;cases d<;>exact h) ?_
   simp only[Qaj,pick,QGo,QGp,QGs,QGu,QGv]
   repeat (go_big_quiet_step (fail))
   refine wpQuiet_nil ?_
   go_wp2_with (first
    | (refine Qli 0 32 rfl _ _ _ _ rfl 5 Tryz.underlying22 Qb2 (B3.nth 0 rfl) hrd3 rfl rfl (by omega) ?_;intro w4 hb4 ho4
       rw[HP.out]at hb4
       have B4:=B3.write 0 rfl ho4 hb4)
    | fail)
   have B5:=B4.perm ((List.Perm.swap _ _ _).trans (List.Perm.cons _ (List.perm_append_singleton _ _).symm))
   go_roundw
   case rel=>
    refine⟨k+1,gs++[wr.heap.size],by omega,by go_num,by simp[hgl],B5.cast ?_⟩
    rw[hps.out wr.heap.size,←hns.out wr.heap.size]
    rfl
   case measure=>simp[intOf];omega
  ·have hkn:k=n:=by omega
   subst hkn
   rw[QHG,List.replicate_zero,QGW,QGD (by rw[Qc6];omega)]at B1
   go_wp2_with fail
   go_ret
   subst hg
   exact⟨gs,rfl,hgl,B1⟩
theorem Qsy {w w':World} {g n:Nat} {gs:List Nat} {ps:List (List UInt8)} (h:Bag w w' ((g,22,gs.map sl32) :: List.zipWith payB gs ps)) (hg:gs.length=n) (hp:ps.length=n) (h32:∀p∈ps,p.length=32):Parts w' (fun _=>False) (some ⟨g,0,none⟩) n ps:=by
 refine⟨gs.map sl32,(h.nth 0 rfl).rd (by rw[QGr,hg]),fun _ _ _ h=>h,by rw[QGr,hg,hp],fun j v p hv hpj=>?_⟩
 rw[QGF,QIg]at hv
 obtain⟨b,hb,rfl⟩:=hv
 have:=h.nth (j+1) (k:=b) (t:=5) (l:=p.map W8) (by rw[QGo,List.getElem?_zipWith,hb,hpj];rfl)
 exact Qba (Qcv this (h32 p (List.mem_of_getElem? hpj))) (QGx _)
theorem Qtf (g:Nat) (w:World):Calls Tryz.prog 145 #[.int .i64 0,.pointer (some ⟨g,0,none⟩)] w fun e w'=>e= .returned (.tuple #[])∧Later w w':=by
 go_enter Tryz.func145,Tryz.ntmps145
 go_wp2_with fail
 exact bodyPost_end (results_none rfl _ _ _) rfl ⟨rfl,Later.refl w⟩
set_option maxRecDepth 100000 in
set_option maxHeartbeats 4000000 in
theorem Qxg (A:Option Addr) (n c:Nat) (cs:List Cmd) (w:World) (hcr:RdF CC 20 cmd0 w A n cs) (h1:1≤n) (h5:n≤5) (hok:∀i,i<n→cmdE (cs.getD i cmd0)=0∧((cs.getD i cmd0).kd=1↔i+1<n)):
 Calls Tryz.prog 113 #[.slice A n c,.int .i64 (n:Int)] w fun e w'=>e= .returned (.int .i64 0)∧Later w w':=by
 have hmf:∀(fn:Fn) (first cap:Array Value) (w:World),(Instr.makeFunc fn first cap).run Tryz.prog w= .ok (.func fn first cap) w:=fun _ _ _ _=>rfl
 have hok':=hid hok
 clear hok
 have k1:decide ((n:Int)<1)=false:=decide_eq_false (by omega)
 have k5:decide ((5:Int)<(n:Int))=false:=decide_eq_false (by omega)
 have hNt:=hid Qtf
 go_enter Tryz.func113,Tryz.ntmps113
 go_wp2_with (first
  | (refine Qa1 rfl ?_;refine Qad rfl rfl _ _ _ rfl w.heap.size 0 _ _ (Blk.new w _ [.int .i64 0]) rfl (by simp) rfl (by kernel_rfl) ?_;intro v1 w1 hv1 hb1 ho1;simp[go_sem]at hv1;subst hv1)
  | fail)
 have l1:Later w w1:=(Qaa w _).only ho1 (QGx _)
 go_loopw [13] (fun i wr=>∃k:Nat,k≤n∧i= .int .i64 k∧Later w1 wr) (fun i _=>n-(intOf i).toNat)
 case atStart=>exact⟨0,by omega,rfl,Later.refl _⟩
 case round=>
  obtain⟨k,hk,rfl,L⟩:=hrel
  by_cases hlt:k<n
  ·obtain⟨b,o,rfl,hb,hc⟩:=(hcr.later (l1.trans L)).at_ hlt
   obtain⟨hE0,hkd⟩:=hok'.out k hlt
   have hCk:=hid (fun w=>Qhx (cs.getD k cmd0) w)
   rw[hE0]at hCk
   generalize cs.getD k cmd0=C at *
   obtain⟨lb,e1,e2⟩:∃lb:Bool,((k:Int)+1==(n:Int))=lb∧(C.kd==1)= !lb:=by
    by_cases hl:k+1=n
    ·exact⟨true,by simp;omega,by simp only[Bool.not_true,beq_eq_false_iff_ne];intro e;have:=hkd.1 e;omega⟩
    ·exact⟨false,by simp;omega,by simp only[Bool.not_false,beq_iff_eq];exact hkd.2 (by omega)⟩
   clear hkd hE0
   go_wp2_with (first
    | (refine go_l rfl ?_;refine Qan rfl 64 _ rfl b (o+k*20) (CC C) hc rfl _ Tryz.underlying64 rfl (by rw[Qao];exact QeX) ?_)
    | (refine Qa1 rfl ?_;refine Qct rfl rfl _ _ rfl (Blk.new wr _ cz0) rfl rfl rfl ?_;intro w2 hb2 ho2
       have l2:Later wr w2:=(Qaa wr _).only ho2 (QGx _))
    | (refine go_l rfl ?_;refine Qc3 rfl _ rfl hb2 rfl ?_)
    | fail)
   refine (hCk.out w2).mono ?_
   rintro e w3 ⟨rfl,j3⟩
   go_wp2_with fail
   refine (hNt.out _ w3).mono ?_
   rintro e w4 ⟨rfl,j4⟩
   have c0:=(Qe3 (hb2.later (j3.trans j4))).1
   have hl4:=(hb2.later (j3.trans j4)).lt
   cases lb
   all_goals
    go_wp2_with fail
    exact⟨⟨k+1,by omega,by go_num,L.trans (l2.trans (j3.trans j4))⟩,by simp[intOf];omega⟩
  ·obtain rfl:k=n:=by omega
   have c0:=(hb1.later L).cellD 0 (u:=.int .i64 0) rfl
   have hlw:=(hb1.later L).lt
   go_wp2_with fail
   go_ret
   exact⟨rfl,l1.trans L⟩
theorem QA1:Tryz.zeroCells53.toList.length=192:=by kernel_rfl
theorem QqM:(Tryz.prog.info? 53).map (·.size)=some 192:=by kernel_rfl
set_option maxRecDepth 100000 in
set_option maxHeartbeats 4000000 in
theorem Qpu (A:Option Addr) (m d:Nat) (xs:List (List UInt8)) (st:Nat→List UInt8) (hstx:∀i,i<m→xs.getD i []=st i) (w:World) (hr:RdK 192 w A m xs) (hxl:∀x∈xs,x.length=192) (h1:1≤m) (h5:m≤5) (hmd:m≤d):
 Calls Tryz.prog 114 #[.slice A m d] w fun e w'=>∃A' c',e= .returned (.tuple #[.slice A' (48*(m-1)) c',.int .i64 0])∧OwnB w' w.heap.size A' (48*(m-1)) c' (QfV st (m-1))∧Later w w':=by
 have hxn:=hr.1
 have hst:=hid (fun k (h:k<m)=>hxl _ (Qd8 xs k (by omega)))
 have hfs:Hid (∀ k,k<m→QfV st (k+1)=xorB (QfV st k++QGn 48 0) ((chaS (subB (xs.getD k []) 32 32) 288).drop (288-48*(k+1)))):=hid (fun k hk=>by rw[hstx k hk];rfl)
 have hf0:Hid (QfV st 0=[]):=hid rfl
 have hfl:=hid (fun k h=>QdA st k h)
 have hchl:=hid (fun key=>QaE key 288)
 generalize QfV st=FA at *
 clear hstx
 obtain⟨b,o,rfl,hb,hc⟩:∃b o,A=some ⟨b,o,none⟩∧b<w.heap.size∧∀k,k<m→∀(w':World),Later w w'→∀j v,((xs.getD k []).map W8)[j]?=some v→w'.cell? ⟨b,o+k*192+j,none⟩=some v:=by
  obtain⟨b,o,hA,hb,_⟩:=hr.sub (k:=0) (by omega)
  refine⟨b,o,hA,hb,fun k hk w' l j v hv=>?_⟩
  obtain⟨b',o',hA',_,h⟩:=hr.sub (k:=k) hk
  rw[hA]at hA'
  cases hA'
  have:=h w' l 0 192 (xs.getD k []) (by rw[subB,QIk,QGD (by have:=hst.out k hk;omega)]) j v hv
  rwa [QIf]at this
 have k1:decide ((m:Int)<1)=false:=decide_eq_false (by omega)
 have k2:decide ((5:Int)<(m:Int))=false:=decide_eq_false (by omega)
 have hcut:∀W,(Instr.sliceAt 45 (.slice (some ⟨b,o,none⟩) m d) none (some (.int .i64 ((m:Int)-1))) none).run Tryz.prog W= .ok (.slice (some ⟨b,o,none⟩) (m-1) d) W:=fun W=>by
  simp[go_sem]
  omega
 replace hc:=hid hc
 clear hr
 go_enter Tryz.func114,Tryz.ntmps114
 go_wp2_with fail
 go_loopw [4,24] (fun v i wr=>∃(k:Nat) (A':Option Addr) (c':Nat),k≤m-1∧i= .int .i64 k∧v= .slice A' (48*k) c'∧OwnB wr w.heap.size A' (48*k) c' (FA k)∧Later w wr) (fun _ i _=>m-1-(intOf i).toNat)
 case atStart=>exact⟨0,none,0,by omega,rfl,rfl,by rw[hf0.out];exact Qbi _ _ _,Later.refl w⟩
 case round=>
  obtain⟨k,A1,c1,hk,rfl,rfl,hown,L⟩:=hrel
  by_cases hlt:k<m-1
  ·have hTl:=hst.out k (by omega)
   have hkl:(subB (xs.getD k []) 32 32).length=32:=Qaq (by omega)
   have hck:=hc.out k (by omega) wr L
   have hs:=hid (hfs.out k (by omega))
   have hbw:=QGN hb L.size
   have hcap1:=OwnB.cap hown
   have hFk:=hfl.out k (by omega)
   generalize hT:xs.getD k []=T at *
   clear hT
   have hS32:Hid (∀ {w':World} {g:Nat},Blk w' g 53 (T.map W8)→RdB w' (some ⟨g,32,none⟩) 32 (subB T 32 32)):=hid (fun h=>Qcc h rfl hkl)
   generalize subB T 32 32=S at *
   generalize FA k=F at *
   go_wp2_with (first
    | (refine go_l rfl ?_;refine Qan rfl 53 _ rfl b (o+k*192) (T.map W8) hck rfl _ Tryz.underlying53 rfl (by rw[QGr,hTl];exact QqM) ?_)
    | (refine Qa1 rfl ?_;refine QhO 192 rfl rfl _ _ rfl (Blk.new wr _ Tryz.zeroCells53.toList) rfl rfl QqM hTl QA1 ?_;intro w2 hb2 ho2
       have l2:Later wr w2:=(Qaa wr _).only ho2 (QGx _))
    | fail)
   refine (Qk1 (some ⟨wr.heap.size,32,none⟩) 32 288 S w2 (hS32.out hb2) (by omega)).mono ?_
   rintro e w3 ⟨A3,c3,rfl,o3,j3⟩
   have hcap3:=OwnB.cap o3
   go_wp2_with (first
    | (refine QaA rfl _ _ _ rfl 5 _ 1 Tryz.underlying22 Qc4 rfl _ _ _ _ 48 rfl rfl rfl rfl (by omega) (by omega) ?_;intro w4 hb4 hl4)
    | fail)
   have hz48:QGn 48 (Value.int .u8 0)=(QGn 48 (0:UInt8)).map W8:=by rw[QG8];rfl
   rw[hz48]at hb4
   have J4:=(l2.trans j3).trans hl4
   have P4:=Qe4 (Blk.new w4 22 [.slice A1 (48*k) c1,.slice (some ⟨w3.heap.size,0,none⟩) 48 48]) (Qba (OwnB.rd (QaF hown (J4.trans (Qaa _ _)))) hcap1) (Qba (Qcv (hb4.later (Qaa _ _)) (by rw[QGA])) (QGx _))
   have hflat:([F,QGn 48 (0:UInt8)]:List (List UInt8)).flatten=F++QGn 48 0:=by simp
   have hFl2:(F++QGn 48 (0:UInt8)).length=48*k+48:=by rw[QGy,QGA,hFk]
   have hJn:=QcT (some ⟨w4.heap.size,0,none⟩) 2 2 _ _ P4 (by omega) (by rw[hflat,hFl2];omega)
   rw[hflat,hFl2]at hJn
   refine hJn.mono ?_
   rintro e w5 ⟨A5,c5,rfl,o5,j5⟩
   have hcap5:=OwnB.cap o5
   clear hJn P4 hb4
   have hch:=hchl.out S
   obtain⟨DA,dc,hcut2,hbd,hdc⟩:∃(DA:Option Addr) (dc:Nat),(∀ W,(Instr.sliceAt 22 (.slice A3 288 c3) (some (.int .i64 ((288:Int)-(48*(k:Int)+48)))) none none).run Tryz.prog W= .ok (.slice DA (48*k+48) dc) W)∧RdB w5 DA (48*k+48) ((chaS S 288).drop (288-48*(k+1)))∧48*k+48≤dc:=by
    refine⟨cutA A3 (288-48*(k+1)) c3,c3-(288-48*(k+1)),fun W=>?_,?_,by omega⟩
    ·have:=QjJ A3 288 c3 .i64 (288-48*(k+1)) (by omega) W
     rw[show (288:Int)-(48*(k:Int)+48)=((288-48*(k+1):Nat):Int) by omega,this,show 288-(288-48*(k+1))=48*k+48 by omega]
    ·have h:=RdB.cut ((OwnB.rd o3).later (hl4.trans ((Qaa _ _).trans j5))) (k:=288-48*(k+1)) (by omega) hcap3
     rwa [show 288-(288-48*(k+1))=48*k+48 by omega]at h
   have J5:=J4.trans ((Qaa _ _).trans j5)
   have P6:=Qe4 (Blk.new w5 22 [.slice A5 (48*k+48) c5,.slice DA (48*k+48) dc]) (Qba (OwnB.rd (QaF o5 (Qaa _ _))) hcap5) (Qba (RdB.later hbd (Qaa _ _)) hdc)
   have hX:=Qm1 (some ⟨w5.heap.size,0,none⟩) 2 (48*k+48) _ _ _ P6 hFl2 (by rw[QGQ,hch];omega) (by omega)
   rw[←hs.out]at hX
   go_wp2_with fail
   refine hX.mono ?_
   rintro e w6 ⟨A6,c6,rfl,o6,j6⟩
   clear hX P6
   go_wp2_with fail
   exact⟨⟨k+1,A6,c6,by omega,by go_num,rfl,Qcq o6 (L.trans (J5.trans (Qaa _ _))).size,L.trans (J5.trans ((Qaa _ _).trans j6))⟩,by simp[intOf];omega⟩
  ·obtain rfl:k=m-1:=by omega
   go_wp2_with fail
   go_ret2
   exact⟨A1,c1,rfl,hown,L⟩
end Go.Proofs.YtdhgpkdjdmlphaaGreat
namespace Go.Proofs.YtdhgpkdjdmlphaaGreat
section
variable {α:Type} (key:α→Int) (d:α)
def insK (l:List α) (a:α):Nat→Nat
 | 0=>0
 | k+1=>if key a<key (l.getD k d) then insK l a k else k+1
def insL (l:List α) (a:α):List α:=l.take (insK key d l a l.length)++a :: l.drop (insK key d l a l.length)
def srtA (l:List α):List α:=srt key d l (l.length-1)
theorem QlM (l:List α) (a:α):∀k,insK key d l a k≤k
 | 0=>QGx _
 | k+1=>by
   rw[insK]
   split
   ·have:=QlM l a k
    omega
   ·exact QGx _
theorem QnD {l:List α} {a:α} {k:Nat} (h:key a<key (l.getD k d)):insK key d l a (k+1)=insK key d l a k:=by rw[insK,if_pos h]
theorem Qnj {l:List α} {a:α} {k:Nat} (h: ¬key a<key (l.getD k d)):insK key d l a (k+1)=k+1:=by rw[insK,if_neg h]
theorem Qpx (l:List α) (a:α):(insL key d l a).length=l.length+1:=by
 have:=QlM key d l a l.length
 rw[insL,QGy,QGP,QHe,QGQ]
 omega
theorem QA0 (l:List α) (a:α) (j:Nat) (h:j<l.length):swp d (l.take (j+1)++a :: l.drop (j+1)) j=l.take j++a :: l.drop j:=by
 have h1:l.take (j+1)++a :: l.drop (j+1)=l.take j++(l[j] :: a :: l.drop (j+1)):=by
  rw[QGY h,QGI]
  rfl
 have h2:l.drop j=l[j] :: l.drop (j+1):=QHw h
 have hl:(l.take j).length=j:=by rw[QGP];omega
 rw[h1,h2]
 generalize l.take j=u at *
 generalize l.drop (j+1)=v at *
 generalize l[j]=b at *
 subst hl
 have e1:(u++b :: a :: v).getD u.length d=b:=by simp[QGq]
 have e2:(u++b :: a :: v).getD (u.length+1) d=a:=by simp[QGq]
 rw[swp,e1,e2,QG1 _ _ (by omega),QG1 _ _ (by omega)]
 simp
theorem Qqf (l:List α) (a:α):∀j,j≤l.length→sink key d (l.take j++a :: l.drop j) j=l.take (insK key d l a j)++a :: l.drop (insK key d l a j)
 | 0,_=>rfl
 | j+1,h=>by
   have g1:(l.take (j+1)++a :: l.drop (j+1)).getD (j+1) d=a:=by
    have hl:(l.take (j+1)).length=j+1:=by rw[QGP];omega
    rw[QGq,QGE (by omega),hl,QHG]
    rfl
   have g2:(l.take (j+1)++a :: l.drop (j+1)).getD j d=l.getD j d:=by
    rw[QGq,QGG (by rw[QGP];omega),QHJ,if_pos (by omega),QGq]
   by_cases hk:key a<key (l.getD j d)
   ·rw[QgW (by rw[g1,g2];exact hk),QnD key d hk,QA0 d l a j (by omega)]
    exact Qqf l a j (by omega)
   ·rw[Qhm (by rw[g1,g2];exact hk),Qnj key d hk]
theorem QAv (l:List α) (a:α) (j:Nat) (h:j+1<l.length):swp d (l++[a]) j=swp d l j++[a]:=by
 have e1:(l++[a]).getD j d=l.getD j d:=by rw[QGq,QGG (by omega),QGq]
 have e2:(l++[a]).getD (j+1) d=l.getD (j+1) d:=by rw[QGq,QGG (by omega),QGq]
 rw[swp,swp,e1,e2,List.set_append_left _ _ (by omega),List.set_append_left _ _ (by rw[QGV];omega)]
theorem Qqa (a:α):∀(j:Nat) (l:List α),j<l.length→sink key d (l++[a]) j=sink key d l j++[a]
 | 0,_,_=>rfl
 | j+1,l,h=>by
   have e1:(l++[a]).getD j d=l.getD j d:=by rw[QGq,QGG (by omega),QGq]
   have e2:(l++[a]).getD (j+1) d=l.getD (j+1) d:=by rw[QGq,QGG (by omega),QGq]
   by_cases hk:key (l.getD (j+1) d)<key (l.getD j d)
   ·rw[QgW (by rw[e1,e2];exact hk),QgW hk,QAv d l a j h]
    exact Qqa a j _ (by rw[Qf6];omega)
   ·rw[Qhm (by rw[e1,e2];exact hk),Qhm hk]
theorem QvX (l:List α) (a:α):∀k,k<l.length→srt key d (l++[a]) k=srt key d l k++[a]
 | 0,_=>rfl
 | k+1,h=>by rw[srt,srt,QvX l a k (by omega),Qqa key d a (k+1) _ (by rw[Qdq];exact h)]
theorem QgL (l:List α):(srtA key d l).length=l.length:=Qdq _
theorem Qs4 (l:List α) (a:α):srtA key d (l++[a])=insL key d (srtA key d l) a:=by
 rcases QH8 l.length with h|h
 ·obtain rfl:=QG7 h
  rfl
 ·have e:srtA key d (l++[a])=sink key d (srtA key d l++[a]) l.length:=by
   obtain⟨n,hn⟩:∃n,l.length=n+1:=⟨l.length-1,by omega⟩
   rw[srtA,srtA,QGy,QIE,Nat.add_sub_cancel,hn,srt,QvX key d l a n (by omega)]
   rfl
  have hm:=Qqf key d (srtA key d l) a (srtA key d l).length (QGx _)
  rw[QGD (QGx _),QHj (QGx _)]at hm
  rw[e,←QgL key d l,hm]
  rfl
end
end Go.Proofs.YtdhgpkdjdmlphaaGreat
namespace Go.Proofs.YtdhgpkdjdmlphaaGreat
open Go.RowKit
open Go.BigFrame
theorem Qwa:Tryz.prog.built 114 []=some (AvC av0).toArray:=by kernel_rfl
theorem QuN (kd:UInt8) (id:UInt64) (tk:Int):Tryz.prog.built 114 [(1,W8 kd),(2,W64 id),(3,.int .i64 tk)]=some (AvC ⟨⟨prt0,kd,id,tk,QaH⟩,.slice none 0 0⟩).toArray:=by kernel_rfl
theorem QfS:(Tryz.prog.info? 187).map (·.size)=some 22:=by kernel_rfl
theorem QlY (v:Vst):∀u∈VC v,u.oneCell'=true:=by
 intro u hu
 simp only[VC,CC,QGu,QGJ,QHd,QG2,QGK,or_false]at hu
 rcases hu with rfl|rfl|rfl|rfl|⟨b,_,rfl⟩|rfl|rfl<;>rfl
set_option maxRecDepth 100000 in
set_option maxHeartbeats 4000000 in
theorem Qqu (A B:Option Addr) (n c m e:Nat) (vs:List Vst) (b:List UInt8) (tk:Int) (w:World) (hv:RdF VC 22 vst0 w A n vs) (hn:n≤1048576) (hb:RdB w B m b) (hme:m≤e):
 Calls Tryz.prog 42 #[.agg #[.slice A n c,.slice B m e,.int .i64 tk]] w fun x w'=>∃A' c',x= .returned (.tuple #[.agg (AvC ⟨arvA vs b tk,.slice A' (arvA vs b tk).pt.da.length c'⟩).toArray,.int .i64 (arvE vs b:Nat)])∧
  OwnB w' w.heap.size A' (arvA vs b tk).pt.da.length c' (arvA vs b tk).pt.da∧Later w w':=by
 have hvl:=hv.1
 have hbl:=hb.len
 have C1:=Qbk w 119 [.slice A n c,.slice B m e,.int .i64 tk]
 have C2:=C1.add (Qaa _ (.cells az0.toArray 114)) (k:=w.heap.size+1) (by simp) (by omega) (Blk.new' _ _ az0 (by simp))
 have q0:=(C2.nth 1 rfl).cellD 0 (u:=.slice A n c) rfl
 have q1:=(C2.nth 1 rfl).cellD 1 (u:=.slice B m e) rfl
 have q2:=(C2.nth 1 rfl).cellD 2 (u:=.int .i64 tk) rfl
 have hb0:=hid Qwa
 have hb1:=hid QuN
 by_cases hn0:n=0
 ·subst hn0
  obtain⟨HE,HA⟩:=Qp7 (vs:=vs) (b:=b) tk (.inl hvl)
  replace HE:=hid HE
  replace HA:=hid HA
  go_enter Tryz.func42,Tryz.ntmps42
  go_wp2_with (first
   | (refine Qah ?hw 114 _ rfl (AvC av0) (by simp only[QGC,QGH];exact hb0.out) ?_;(case hw=>rfl))
   | (refine Qai rfl rfl _ _ _ rfl (w.heap.size+1) _ _ (AvC av0) (C2.nth 0 rfl) rfl rfl 24 QaN (Qam _) rfl (Qbv _ _ _ _) ?_;intro w5 hb5 ho5)
   | fail)
  exact bodyPost_ret (Qac rfl _ _ _ _ _ _ hb5 rfl Tryz.underlying114 rfl (by rw[Qam];exact QaN)) rfl ⟨none,0,by rw[HE.out,HA.out];rfl,by rw[HA.out];exact Qbi _ _ _,C2.lat.only ho5 (by omega)⟩
 obtain⟨k,rfl⟩:∃k,n=k+1:=⟨n-1,by omega⟩
 have hne:((k:Int)+1==0)=false:=beq_eq_false_iff_ne.2 (by omega)
 by_cases hm:m≠480
 ·have hm2:((m:Int) != 480)=true:=bne_iff_ne.2 (by omega)
  obtain⟨HE,HA⟩:=Qp7 (vs:=vs) (b:=b) tk (.inr (by rw[hbl];exact hm))
  replace HE:=hid HE
  replace HA:=hid HA
  go_enter Tryz.func42,Tryz.ntmps42
  go_wp2_with (first
   | (refine Qah ?hw 114 _ rfl (AvC av0) (by simp only[QGC,QGH];exact hb0.out) ?_;(case hw=>rfl))
   | (refine Qai rfl rfl _ _ _ rfl (w.heap.size+1) _ _ (AvC av0) (C2.nth 0 rfl) rfl rfl 24 QaN (Qam _) rfl (Qbv _ _ _ _) ?_;intro w5 hb5 ho5)
   | fail)
  exact bodyPost_ret (Qac rfl _ _ _ _ _ _ hb5 rfl Tryz.underlying114 rfl (by rw[Qam];exact QaN)) rfl ⟨none,0,by rw[HE.out,HA.out];rfl,by rw[HA.out];exact Qbi _ _ _,C2.lat.only ho5 (by omega)⟩
 obtain rfl:m=480:=Classical.not_not.1 hm
 have hS: ¬(vs.length=0∨b.length≠480):=by omega
 obtain⟨b0,o,rfl,hb00,hc⟩:=(hv.later C2.lat).at_ (k:=k) (by omega)
 have hlv:vs.getD k vst0=QcR vs:=by rw[QcR,hvl];rfl
 rw[hlv]at hc
 have r4:=hid (fun h=>Qwt (vs:=vs) (b:=b) tk hS h)
 have rf:=hid (fun h1 h2 h3=>Qxo (vs:=vs) (b:=b) tk hS h1 h2 h3)
 have rb:=hid (fun h1 h2=>QBO (vs:=vs) (b:=b) tk hS h1 h2)
 have rt:=hid (fun h1 h2 h3=>Qyd (vs:=vs) (b:=b) tk hS h1 h2 h3)
 have rg:=hid (fun h1 h2 h3=>QqQ (vs:=vs) (b:=b) tk hS h1 h2 h3)
 have hPa:=hid (fun w h=>Qrj B e b w h hme)
 have hPd:Hid (parE b≠0→parP b=prt0):=hid (fun h=>by rw[parP,if_neg h])
 generalize arvE vs b=E at *
 generalize arvA vs b tk=R at *
 generalize QcR vs=v at *
 generalize parE b=PE at *
 generalize parP b=P at *
 clear hlv hS hm hn0 hvl
 have hsz:((w.alloc (.cells [.slice (some ⟨b0,o,none⟩) (k+1) c,.slice B 480 e,.int .i64 tk].toArray 119)).alloc (.cells az0.toArray 114)).heap.size=w.heap.size+2:=by simp
 by_cases h4:v.cm.kd=4
 ·obtain⟨HE,HA⟩:=r4.out h4
  replace HE:=hid HE
  replace HA:=hid HA
  have f4:(v.cm.kd==4)=true:=by rw[h4];rfl
  clear r4 rf rb rt rg hPa hPd h4
  go_enter Tryz.func42,Tryz.ntmps42
  go_wp2_with (first
   | (refine Qan ?hw _ _ rfl b0 (o+k*22) (VC v) hc rfl _ Tryz.underlying187 rfl (by rw[QaP];exact QfS) ?_;(case hw=>rfl))
   | (refine Qai rfl rfl _ _ _ rfl (w.heap.size+2) _ _ (VC v) (Blk.new' _ _ (VC vst0) hsz) rfl rfl 22 QfS (QaP _) (QaP vst0) (QlY _) ?_;intro w3 hb3 ho3
      have l3:=Later.only (Qaa _ _) ho3 (QIs hsz)
      have C3:=C2.fresh l3 (QIs hsz) hb3
      obtain⟨x0,x20,x4⟩:=QdF hb3
      have y2:=(C3.nth 2 rfl).cellD 2 (u:=.int .i64 tk) rfl)
   | (refine Qah ?hw 114 _ rfl (AvC ⟨⟨prt0,v.cm.kd,v.id,tk,QaH⟩,.slice none 0 0⟩) (by simp only[QGC,QGR,QGH];exact hb1.out _ _ _) ?_;(case hw=>rfl))
   | (refine Qai rfl rfl _ _ _ rfl w3.heap.size _ _ (AvC ⟨⟨prt0,v.cm.kd,v.id,tk,QaH⟩,.slice none 0 0⟩) (Blk.new w3 _ (AvC av0)) rfl rfl 24 QaN (Qam _) (Qam av0) (Qbv _ _ _ _) ?_;intro w4 hb4 ho4
      have l4:=(Qaa w3 _).only ho4 (QGx _)
      have C4:=C3.fresh l4 (QGx _) hb4
      clear x0 x20 x4 y2
      obtain⟨x0,x20,x4⟩:=QdF (C4.nth 1 rfl))
   | (refine Qan ?hw _ _ rfl (w.heap.size+2) 4 (v.cm.ma.val.map W8) x4 rfl _ Tryz.underlying31 rfl (by rw[QGr,v.cm.ma.2];exact QtD) ?_;(case hw=>rfl))
   | (refine Qal rfl rfl _ _ _ rfl w3.heap.size 8 _ _ (v.cm.ma.val.map W8) (C4.nth 0 rfl) rfl rfl (by rw[QGr,v.cm.ma.2];exact QtD) (by rw[Qam,QGr,v.cm.ma.2];omega) (QaX _) ?_;intro w5 hb5 ho5
      rw[Qv4]at hb5
      have C5:=C4.write 0 rfl ho5 hb5)
   | (refine Qan ?hw _ _ rfl w3.heap.size 0 (AvC ⟨⟨prt0,v.cm.kd,v.id,tk,v.cm.ma⟩,.slice none 0 0⟩) (fun j v hv=>by rw[QGT];exact hb5.cellD j hv) rfl _ Tryz.underlying114 rfl (by rw[Qam];exact QaN) ?_;(case hw=>rfl))
   | (refine Qai rfl rfl _ _ _ rfl (w.heap.size+1) _ _ (AvC ⟨⟨prt0,v.cm.kd,v.id,tk,v.cm.ma⟩,.slice none 0 0⟩) (C5.nth 2 rfl) rfl rfl 24 QaN (Qam _) rfl (Qbv _ _ _ _) ?_;intro w6 hb6 ho6)
   | fail)
  exact bodyPost_ret (Qac rfl _ _ _ _ _ _ hb6 rfl Tryz.underlying114 rfl (by rw[Qam];exact QaN)) rfl ⟨none,0,by rw[HE.out,HA.out];rfl,by rw[HA.out];exact Qbi _ _ _,C5.lat.only ho6 (by omega)⟩
 have f4:(v.cm.kd==4)=false:=beq_eq_false_iff_ne.2 h4
 clear r4
 by_cases h23: ¬(v.cm.kd=2∨v.cm.kd=3)
 ·have h2:v.cm.kd≠2:=fun h=>h23 (.inl h)
  have h3:v.cm.kd≠3:=fun h=>h23 (.inr h)
  obtain⟨HE,HA⟩:=rf.out h4 h2 h3
  replace HE:=hid HE
  replace HA:=hid HA
  have f2:(v.cm.kd==2)=false:=beq_eq_false_iff_ne.2 h2
  have f3:(v.cm.kd==3)=false:=beq_eq_false_iff_ne.2 h3
  clear rf rb rt rg hPa hPd h4 h23 h2 h3
  go_enter Tryz.func42,Tryz.ntmps42
  go_wp2_with (first
   | (refine Qan ?hw _ _ rfl b0 (o+k*22) (VC v) hc rfl _ Tryz.underlying187 rfl (by rw[QaP];exact QfS) ?_;(case hw=>rfl))
   | (refine Qai rfl rfl _ _ _ rfl (w.heap.size+2) _ _ (VC v) (Blk.new' _ _ (VC vst0) hsz) rfl rfl 22 QfS (QaP _) (QaP vst0) (QlY _) ?_;intro w3 hb3 ho3
      have l3:=Later.only (Qaa _ _) ho3 (QIs hsz)
      have C3:=C2.fresh l3 (QIs hsz) hb3
      obtain⟨x0,x20,x4⟩:=QdF hb3
      have y2:=(C3.nth 2 rfl).cellD 2 (u:=.int .i64 tk) rfl)
   | (refine Qah ?hw 114 _ rfl (AvC ⟨⟨prt0,v.cm.kd,v.id,tk,QaH⟩,.slice none 0 0⟩) (by simp only[QGC,QGR,QGH];exact hb1.out _ _ _) ?_;(case hw=>rfl))
   | (refine Qai rfl rfl _ _ _ rfl w3.heap.size _ _ (AvC ⟨⟨prt0,v.cm.kd,v.id,tk,QaH⟩,.slice none 0 0⟩) (Blk.new w3 _ (AvC av0)) rfl rfl 24 QaN (Qam _) (Qam av0) (Qbv _ _ _ _) ?_;intro w4 hb4 ho4
      have l4:=(Qaa w3 _).only ho4 (QGx _)
      have C4:=C3.fresh l4 (QGx _) hb4
      clear x0 x20 x4 y2
      obtain⟨x0,x20,x4⟩:=QdF (C4.nth 1 rfl)
      have y1:=(C4.nth 3 rfl).cellD 1 (u:=.slice B 480 e) rfl)
   | (refine Qah ?hw 114 _ rfl (AvC av0) (by simp only[QGC,QGH];exact hb0.out) ?_;(case hw=>rfl))
   | (refine Qai rfl rfl _ _ _ rfl (w.heap.size+1) _ _ (AvC av0) (C4.nth 2 rfl) rfl rfl 24 QaN (Qam _) rfl (Qbv _ _ _ _) ?_;intro w9 hb9 ho9)
   | fail)
  exact bodyPost_ret (Qac rfl _ _ _ _ _ _ hb9 rfl Tryz.underlying114 rfl (by rw[Qam];exact QaN)) rfl ⟨none,0,by rw[HE.out,HA.out];rfl,by rw[HA.out];exact Qbi _ _ _,C4.lat.only ho9 (by omega)⟩
 replace h23:=Classical.not_not.1 h23
 clear rf h4
 obtain⟨M,hM,hMM,hf⟩:∃M:UInt8,(if v.cm.kd=3 then 2 else 1)=M∧((M=1∧(v.cm.kd==2)=true)∨(M=2∧(v.cm.kd==2)=false∧(v.cm.kd==3)=true))∧True:=by
  rcases h23 with h|h
  ·exact⟨1,by rw[h];decide,.inl ⟨rfl,by rw[h];rfl⟩,trivial⟩
  ·exact⟨2,by rw[h];decide,.inr ⟨rfl,by rw[h];rfl,by rw[h];rfl⟩,trivial⟩
 replace rb:=hid (rb.out h23)
 replace rt:=hid (rt.out h23)
 replace rg:=hid (rg.out h23)
 rw[hM]at rt rg
 clear hM h23 hf
 rcases hMM with ⟨rfl,f2⟩|⟨rfl,f2,f3⟩
 ·go_enter Tryz.func42,Tryz.ntmps42
  go_wp2_with (first
   | (refine Qan ?hw _ _ rfl b0 (o+k*22) (VC v) hc rfl _ Tryz.underlying187 rfl (by rw[QaP];exact QfS) ?_;(case hw=>rfl))
   | (refine Qai rfl rfl _ _ _ rfl (w.heap.size+2) _ _ (VC v) (Blk.new' _ _ (VC vst0) hsz) rfl rfl 22 QfS (QaP _) (QaP vst0) (QlY _) ?_;intro w3 hb3 ho3
      have l3:=Later.only (Qaa _ _) ho3 (QIs hsz)
      have C3:=C2.fresh l3 (QIs hsz) hb3
      obtain⟨x0,x20,x4⟩:=QdF hb3
      have y2:=(C3.nth 2 rfl).cellD 2 (u:=.int .i64 tk) rfl)
   | (refine Qah ?hw 114 _ rfl (AvC ⟨⟨prt0,v.cm.kd,v.id,tk,QaH⟩,.slice none 0 0⟩) (by simp only[QGC,QGR,QGH];exact hb1.out _ _ _) ?_;(case hw=>rfl))
   | (refine Qai rfl rfl _ _ _ rfl w3.heap.size _ _ (AvC ⟨⟨prt0,v.cm.kd,v.id,tk,QaH⟩,.slice none 0 0⟩) (Blk.new w3 _ (AvC av0)) rfl rfl 24 QaN (Qam _) (Qam av0) (Qbv _ _ _ _) ?_;intro w4 hb4 ho4
      have l4:=(Qaa w3 _).only ho4 (QGx _)
      have C4:=C3.fresh l4 (QGx _) hb4
      clear x0 x20 x4 y2
      obtain⟨x0,x20,x4⟩:=QdF (C4.nth 1 rfl)
      have y1:=(C4.nth 3 rfl).cellD 1 (u:=.slice B 480 e) rfl)
   | fail)
  refine (hPa.out w4 (hb.later C4.lat)).mono ?_
  rintro x5 w5 ⟨A5,c5,rfl,hown5,l5⟩
  clear x0 x20 x4 y1
  have C5:=C4.later l5
  by_cases hpe:PE=0
  case neg=>
   obtain⟨HE,HA⟩:=rb.out hpe
   replace HE:=hid HE
   replace HA:=hid HA
   have hp2:((PE:Int) != 0)=true:=bne_iff_ne.2 (by omega)
   clear rb rt rg hPa hpe
   go_wp2_with (first
   | (refine Qco rfl rfl _ _ rfl (Blk.new w5 _ pz0) rfl rfl rfl rfl ?_;intro w6 hb6 ho6
      have l6:=(Qaa w5 _).only ho6 (QGx _)
      have C6:=C5.fresh l6 (QGx _) hb6)
   | (refine Qah ?hw 114 _ rfl (AvC av0) (by simp only[QGC,QGH];exact hb0.out) ?_;(case hw=>rfl))
   | (refine Qai rfl rfl _ _ _ rfl (w.heap.size+1) _ _ (AvC av0) (C6.nth 3 rfl) rfl rfl 24 QaN (Qam _) rfl (Qbv _ _ _ _) ?_;intro w9 hb9 ho9)
   | fail)
   exact bodyPost_ret (Qac rfl _ _ _ _ _ _ hb9 rfl Tryz.underlying114 rfl (by rw[Qam];exact QaN)) rfl ⟨none,0,by rw[HE.out,HA.out];rfl,by rw[HA.out];exact Qbi _ _ _,C6.lat.only ho9 (by omega)⟩
  replace rt:=hid (rt.out hpe)
  replace rg:=hid (rg.out hpe)
  subst hpe
  have hw34:=(C4.nth 0 rfl).lt
  have hw23:=(C3.nth 0 rfl).lt
  by_cases hk:P.kd=1
  case neg=>
   obtain⟨HE,HA⟩:=rt.out hk
   replace HE:=hid HE
   replace HA:=hid HA
   have fk:(P.kd != 1)=true:=bne_iff_ne.2 hk
   clear rb rt rg hPa hk
   go_wp2_with (first
   | (refine Qco rfl rfl _ _ rfl (Blk.new w5 _ pz0) rfl rfl rfl rfl ?_;intro w6 hb6 ho6
      have l6:=(Qaa w5 _).only ho6 (QGx _)
      have C6:=C5.fresh l6 (QGx _) hb6
      have z0:=(C6.nth 0 rfl).cellD 0 (u:=W8 P.kd) rfl)
   | (refine Qah ?hw 114 _ rfl (AvC av0) (by simp only[QGC,QGH];exact hb0.out) ?_;(case hw=>rfl))
   | (refine Qai rfl rfl _ _ _ rfl (w.heap.size+1) _ _ (AvC av0) (C6.nth 3 rfl) rfl rfl 24 QaN (Qam _) rfl (Qbv _ _ _ _) ?_;intro w9 hb9 ho9)
   | fail)
   exact bodyPost_ret (Qac rfl _ _ _ _ _ _ hb9 rfl Tryz.underlying114 rfl (by rw[Qam];exact QaN)) rfl ⟨none,0,by rw[HE.out,HA.out];rfl,by rw[HA.out];exact Qbi _ _ _,C6.lat.only ho9 (by omega)⟩
  obtain⟨HE,HA⟩:=rg.out hk
  replace HE:=hid HE
  replace HA:=hid HA
  have fk:(P.kd != 1)=false:=bne_eq_false_iff_eq.2 hk
  clear rb rt rg hPa hk
  go_wp2_with (first
   | (refine Qco rfl rfl _ _ rfl (Blk.new w5 _ pz0) rfl rfl rfl rfl ?_;intro w6 hb6 ho6
      have l6:=(Qaa w5 _).only ho6 (QGx _)
      have C6:=C5.fresh l6 (QGx _) hb6
      have z0:=(C6.nth 0 rfl).cellD 0 (u:=W8 P.kd) rfl)
   | (refine QdP ?hw _ rfl (C6.nth 0 rfl) rfl ?_;(case hw=>rfl))
   | (refine Qal rfl rfl _ _ _ rfl w3.heap.size 0 _ _ (PaC P (.slice A5 P.da.length c5)) (C6.nth 1 rfl) rfl rfl (by rw[Qa9];exact QdN) (by rw[Qam,Qa9];omega) (QhK _ rfl) ?_;intro w7 hb7 ho7
      rw[Qqm]at hb7
      have C7:=C6.write 1 rfl ho7 hb7)
   | (refine Qan ?hw _ _ rfl w3.heap.size 0 (AvC ⟨⟨P,v.cm.kd,v.id,tk,QaH⟩,.slice A5 P.da.length c5⟩) (fun j v hv=>by rw[QGT];exact hb7.cellD j hv) rfl _ Tryz.underlying114 rfl (by rw[Qam];exact QaN) ?_;(case hw=>rfl))
   | (refine Qai rfl rfl _ _ _ rfl (w.heap.size+1) _ _ (AvC ⟨⟨P,v.cm.kd,v.id,tk,QaH⟩,.slice A5 P.da.length c5⟩) (C7.nth 3 rfl) rfl rfl 24 QaN (Qam _) rfl (Qbv _ _ _ _) ?_;intro w9 hb9 ho9)
   | fail)
  have o6:=QaF hown5 l6
  have o7:=QgT o6 ho7 (fun k hk=>.inl (by simp only[Option.some.injEq]at hk;omega))
  have o9:=QgT o7 ho9 (fun k hk=>.inl (by simp only[Option.some.injEq]at hk;omega))
  exact bodyPost_ret (Qac rfl _ _ _ _ _ _ hb9 rfl Tryz.underlying114 rfl (by rw[Qam];exact QaN)) rfl ⟨A5,c5,by rw[HE.out,HA.out];rfl,by rw[HA.out];exact Qcq o9 C4.lat.size,C7.lat.only ho9 (by omega)⟩
 ·go_enter Tryz.func42,Tryz.ntmps42
  go_wp2_with (first
   | (refine Qan ?hw _ _ rfl b0 (o+k*22) (VC v) hc rfl _ Tryz.underlying187 rfl (by rw[QaP];exact QfS) ?_;(case hw=>rfl))
   | (refine Qai rfl rfl _ _ _ rfl (w.heap.size+2) _ _ (VC v) (Blk.new' _ _ (VC vst0) hsz) rfl rfl 22 QfS (QaP _) (QaP vst0) (QlY _) ?_;intro w3 hb3 ho3
      have l3:=Later.only (Qaa _ _) ho3 (QIs hsz)
      have C3:=C2.fresh l3 (QIs hsz) hb3
      obtain⟨x0,x20,x4⟩:=QdF hb3
      have y2:=(C3.nth 2 rfl).cellD 2 (u:=.int .i64 tk) rfl)
   | (refine Qah ?hw 114 _ rfl (AvC ⟨⟨prt0,v.cm.kd,v.id,tk,QaH⟩,.slice none 0 0⟩) (by simp only[QGC,QGR,QGH];exact hb1.out _ _ _) ?_;(case hw=>rfl))
   | (refine Qai rfl rfl _ _ _ rfl w3.heap.size _ _ (AvC ⟨⟨prt0,v.cm.kd,v.id,tk,QaH⟩,.slice none 0 0⟩) (Blk.new w3 _ (AvC av0)) rfl rfl 24 QaN (Qam _) (Qam av0) (Qbv _ _ _ _) ?_;intro w4 hb4 ho4
      have l4:=(Qaa w3 _).only ho4 (QGx _)
      have C4:=C3.fresh l4 (QGx _) hb4
      clear x0 x20 x4 y2
      obtain⟨x0,x20,x4⟩:=QdF (C4.nth 1 rfl)
      have y1:=(C4.nth 3 rfl).cellD 1 (u:=.slice B 480 e) rfl)
   | fail)
  refine (hPa.out w4 (hb.later C4.lat)).mono ?_
  rintro x5 w5 ⟨A5,c5,rfl,hown5,l5⟩
  clear x0 x20 x4 y1
  have C5:=C4.later l5
  by_cases hpe:PE=0
  case neg=>
   obtain⟨HE,HA⟩:=rb.out hpe
   replace HE:=hid HE
   replace HA:=hid HA
   have hp2:((PE:Int) != 0)=true:=bne_iff_ne.2 (by omega)
   clear rb rt rg hPa hpe
   go_wp2_with (first
   | (refine Qco rfl rfl _ _ rfl (Blk.new w5 _ pz0) rfl rfl rfl rfl ?_;intro w6 hb6 ho6
      have l6:=(Qaa w5 _).only ho6 (QGx _)
      have C6:=C5.fresh l6 (QGx _) hb6)
   | (refine Qah ?hw 114 _ rfl (AvC av0) (by simp only[QGC,QGH];exact hb0.out) ?_;(case hw=>rfl))
   | (refine Qai rfl rfl _ _ _ rfl (w.heap.size+1) _ _ (AvC av0) (C6.nth 3 rfl) rfl rfl 24 QaN (Qam _) rfl (Qbv _ _ _ _) ?_;intro w9 hb9 ho9)
   | fail)
   exact bodyPost_ret (Qac rfl _ _ _ _ _ _ hb9 rfl Tryz.underlying114 rfl (by rw[Qam];exact QaN)) rfl ⟨none,0,by rw[HE.out,HA.out];rfl,by rw[HA.out];exact Qbi _ _ _,C6.lat.only ho9 (by omega)⟩
  replace rt:=hid (rt.out hpe)
  replace rg:=hid (rg.out hpe)
  subst hpe
  have hw34:=(C4.nth 0 rfl).lt
  have hw23:=(C3.nth 0 rfl).lt
  by_cases hk:P.kd=2
  case neg=>
   obtain⟨HE,HA⟩:=rt.out hk
   replace HE:=hid HE
   replace HA:=hid HA
   have fk:(P.kd != 2)=true:=bne_iff_ne.2 hk
   clear rb rt rg hPa hk
   go_wp2_with (first
   | (refine Qco rfl rfl _ _ rfl (Blk.new w5 _ pz0) rfl rfl rfl rfl ?_;intro w6 hb6 ho6
      have l6:=(Qaa w5 _).only ho6 (QGx _)
      have C6:=C5.fresh l6 (QGx _) hb6
      have z0:=(C6.nth 0 rfl).cellD 0 (u:=W8 P.kd) rfl)
   | (refine Qah ?hw 114 _ rfl (AvC av0) (by simp only[QGC,QGH];exact hb0.out) ?_;(case hw=>rfl))
   | (refine Qai rfl rfl _ _ _ rfl (w.heap.size+1) _ _ (AvC av0) (C6.nth 3 rfl) rfl rfl 24 QaN (Qam _) rfl (Qbv _ _ _ _) ?_;intro w9 hb9 ho9)
   | fail)
   exact bodyPost_ret (Qac rfl _ _ _ _ _ _ hb9 rfl Tryz.underlying114 rfl (by rw[Qam];exact QaN)) rfl ⟨none,0,by rw[HE.out,HA.out];rfl,by rw[HA.out];exact Qbi _ _ _,C6.lat.only ho9 (by omega)⟩
  obtain⟨HE,HA⟩:=rg.out hk
  replace HE:=hid HE
  replace HA:=hid HA
  have fk:(P.kd != 2)=false:=bne_eq_false_iff_eq.2 hk
  clear rb rt rg hPa hk
  go_wp2_with (first
   | (refine Qco rfl rfl _ _ rfl (Blk.new w5 _ pz0) rfl rfl rfl rfl ?_;intro w6 hb6 ho6
      have l6:=(Qaa w5 _).only ho6 (QGx _)
      have C6:=C5.fresh l6 (QGx _) hb6
      have z0:=(C6.nth 0 rfl).cellD 0 (u:=W8 P.kd) rfl)
   | (refine QdP ?hw _ rfl (C6.nth 0 rfl) rfl ?_;(case hw=>rfl))
   | (refine Qal rfl rfl _ _ _ rfl w3.heap.size 0 _ _ (PaC P (.slice A5 P.da.length c5)) (C6.nth 1 rfl) rfl rfl (by rw[Qa9];exact QdN) (by rw[Qam,Qa9];omega) (QhK _ rfl) ?_;intro w7 hb7 ho7
      rw[Qqm]at hb7
      have C7:=C6.write 1 rfl ho7 hb7)
   | (refine Qan ?hw _ _ rfl w3.heap.size 0 (AvC ⟨⟨P,v.cm.kd,v.id,tk,QaH⟩,.slice A5 P.da.length c5⟩) (fun j v hv=>by rw[QGT];exact hb7.cellD j hv) rfl _ Tryz.underlying114 rfl (by rw[Qam];exact QaN) ?_;(case hw=>rfl))
   | (refine Qai rfl rfl _ _ _ rfl (w.heap.size+1) _ _ (AvC ⟨⟨P,v.cm.kd,v.id,tk,QaH⟩,.slice A5 P.da.length c5⟩) (C7.nth 3 rfl) rfl rfl 24 QaN (Qam _) rfl (Qbv _ _ _ _) ?_;intro w9 hb9 ho9)
   | fail)
  have o6:=QaF hown5 l6
  have o7:=QgT o6 ho7 (fun k hk=>.inl (by simp only[Option.some.injEq]at hk;omega))
  have o9:=QgT o7 ho9 (fun k hk=>.inl (by simp only[Option.some.injEq]at hk;omega))
  exact bodyPost_ret (Qac rfl _ _ _ _ _ _ hb9 rfl Tryz.underlying114 rfl (by rw[Qam];exact QaN)) rfl ⟨A5,c5,by rw[HE.out,HA.out];rfl,by rw[HA.out];exact Qcq o9 C4.lat.size,C7.lat.only ho9 (by omega)⟩
def dlv1 (xs:List Nod) (e:Emt):List Arr:=
 if (QbZ xs e.tk e.id e.bs).er=0∧arvE (QbZ xs e.tk e.id e.bs).vs (QbZ xs e.tk e.id e.bs).bd=0 then [arvA (QbZ xs e.tk e.id e.bs).vs (QbZ xs e.tk e.id e.bs).bd (QbZ xs e.tk e.id e.bs).tk] else []
def dlvU (xs:List Nod) (es:List Emt):List Arr:=es.flatMap (dlv1 xs)
def dlvS (xs:List Nod) (es:List Emt):List Arr:=srt Arr.tk arr0 (dlvU xs es) ((dlvU xs es).length-1)
theorem Qn1 (xs:List Nod) (es:List Emt) (k:Nat) (h:k<es.length):dlvU xs (es.take (k+1))=dlvU xs (es.take k)++dlv1 xs (es.getD k emt0):=by
 rw[dlvU,dlvU,QGY h,QH3,QGq,QGt h]
 simp
section
variable {α β:Type} {f:α→β} {kb:β→Int} {d:α}
theorem QAW (l:List α) (j:Nat):(swp d l j).map f=swp (f d) (l.map f) j:=by
 have g:∀i,f (l.getD i d)=(l.map f).getD i (f d):=fun i=>by
  rw[QGq,QGq,QGF]
  cases l[i]?<;>rfl
 rw[swp,swp,QIP,QIP,g,g]
theorem Qqw:∀(j:Nat) (l:List α),(sink (fun x=>kb (f x)) d l j).map f=sink kb (f d) (l.map f) j
 | 0,_=>rfl
 | j+1,l=>by
   have g:∀i,f (l.getD i d)=(l.map f).getD i (f d):=fun i=>by
    rw[QGq,QGq,QGF]
    cases l[i]?<;>rfl
   rw[sink,sink,g,g]
   split
   ·rw[Qqw j,QAW]
   ·rfl
theorem Qu8 (l:List α):∀k:Nat,(srt (fun x=>kb (f x)) d l k).map f=srt kb (f d) (l.map f) k
 | 0=>rfl
 | k+1=>by rw[srt,srt,Qqw,Qu8 l k]
end
theorem QAx (gs:List Arw) (k:Nat):(srt awK aw0 gs k).map (·.ar)=srt Arr.tk arr0 (gs.map (·.ar)) k:=Qu8 (f:=fun x:Arw=>x.ar) (kb:=Arr.tk) (d:=aw0) gs k
def awB (g:Arw):Option Nat:=(Value.slice g.va g.vn g.vc).ownBlock
theorem QxW {gs:List Arw} {g:Arw} {wr w5:World} {base k:Nat} {bs:List UInt8} (h:(gs.filterMap awB).Nodup) (ho:∀g∈gs,AwOk wr base g) (hs:wr.heap.size≤k) (hn:OwnB w5 k g.va g.vn g.vc bs):((gs++[g]).filterMap awB).Nodup:=by
 rw[List.filterMap_append,List.nodup_append]
 refine⟨h,?_,fun a ha b hb=>?_⟩
 ·cases e:awB g<;>simp[e]
 ·obtain⟨x,hx,hxa⟩:=List.mem_filterMap.1 ha
  obtain⟨y,hy,hyb⟩:=List.mem_filterMap.1 hb
  obtain rfl:=QHO.1 hy
  have h1:=(World.ownsRow.lt (ho x hx) a hxa).2
  have h2:=(World.ownsRow.lt hn b hyb).1
  omega
theorem Qvn:(Tryz.prog.info? 131).map (·.size)=some 3:=by kernel_rfl
set_option maxRecDepth 100000 in
set_option maxHeartbeats 4000000 in
theorem QpS (A D:Option Addr) (n c m e:Nat) (xs:List Nod) (es:List Emt) (w:World) (hx:RdN w A n xs) (hn:n≤1048576) (hs:∀x∈xs,x.nm.size≤140737488355328) (hes:RdF EmC 3 emt0 w D m es) (hok:∀y∈es,EmOk w y) (hm:m<20):
 Calls Tryz.prog 46 #[.slice A n c,.slice D m e] w fun x w'=>∃(A':Option Addr) (c':Nat) (gs:List Arw),x= .returned (.slice A' gs.length c')∧w'.ownsRow w.heap.size 114 24 (.slice A' gs.length c') gs.length (gs.flatMap ArC)∧
  gs.length≤m∧gs.map (·.ar)=dlvS xs es∧(∀ g∈gs,AwOk w' w.heap.size g)∧(gs.filterMap awB).Nodup∧Later w w':=by
 have hel:=hes.1
 go_enter Tryz.func46,Tryz.ntmps46
 go_wp2_with fail
 go_loopw [5,13] (fun v5 i wr=>∃(k:Nat) (gs:List Arw) (A':Option Addr) (c':Nat),k≤m∧i= .int .i64 k∧v5= .slice A' gs.length c'∧gs.length≤k∧Later w wr∧wr.ownsRow w.heap.size 114 24 (.slice A' gs.length c') gs.length (gs.flatMap ArC)∧Hid (gs.map (·.ar)=dlvU xs (es.take k))∧(∀ g∈gs,AwOk wr w.heap.size g)∧Hid (gs.length=0→A'=none)∧(gs.filterMap awB).Nodup) (fun _ i _=>m-(intOf i).toNat)
 case atStart=>exact⟨0,[],none,0,by omega,rfl,rfl,QGx _,Later.refl _,⟨by simp,.inl ⟨rfl,rfl⟩⟩,hid rfl,by simp,hid (fun _=>rfl),by simp⟩
 case round=>
  obtain⟨k,gs,A2,c2,hk,rfl,rfl,hgl,L,hown,hgs,hgo,hnl,hnd⟩:=hrel
  by_cases hlt:k<m
  ·obtain⟨b,o,rfl,hb,hc⟩:=(hes.later L).at_ hlt
   have hmem:es.getD k emt0∈es:=by
    rw[QGq,QGt (by omega)]
    exact QHi _
   have hst:=hid (Qn1 xs es k (by omega))
   have hyk:=(hok _ hmem).later L
   generalize es.getD k emt0=y at *
   obtain⟨tk,id,bs,B,en,ec⟩:=y
   obtain⟨hec,hrd⟩:=hyk
   simp only at hec hrd
   have hd1:dlv1 xs ⟨tk,id,bs,B,en,ec⟩=if (QbZ xs tk id bs).er=0∧arvE (QbZ xs tk id bs).vs (QbZ xs tk id bs).bd=0 then [arvA (QbZ xs tk id bs).vs (QbZ xs tk id bs).bd (QbZ xs tk id bs).tk] else []:=rfl
   have hCa:=hid (fun w h1 h2=>QsF A B n c en ec xs tk id bs w h1 hn hs h2 hec)
   have hvl:(QbZ xs tk id bs).vs.length≤16:=Qsu xs tk id bs
   generalize QbZ xs tk id bs=R at *
   generalize dlv1 xs ⟨tk,id,bs,B,en,ec⟩=D1 at *
   clear hmem
   go_wp2_with (first
    | (refine go_l rfl ?_;refine Qan ?hw _ _ rfl b (o+k*3) (emC tk id B en ec) hc rfl _ Tryz.underlying131 rfl Qvn ?_;(case hw=>rfl))
    | (refine Qa1 rfl ?_;refine Qai rfl rfl _ _ _ rfl wr.heap.size _ _ (emC tk id B en ec) (Blk.new wr _ (EmC emt0)) rfl rfl 3 Qvn rfl rfl (Quu ⟨tk,id,bs,B,en,ec⟩) ?_;intro w2 hb2 ho2
       have l2:Later wr w2:=(Qaa wr _).only ho2 (QGx _))
    | (refine go_l rfl ?_;refine Qan ?hw _ _ rfl wr.heap.size 0 (emC tk id B en ec) (fun j v hv=>by rw[QGT];exact hb2.cellD j hv) rfl _ Tryz.underlying131 rfl Qvn ?_;(case hw=>rfl))
    | fail)
   refine (hCa.out w2 (hx.later (L.trans l2)) (hrd.later l2)).mono ?_
   rintro x w3 ⟨A3,c3,B3,d3,rfl,rv,ob,l3⟩
   have rb:=OwnB.rd ob
   have hbd:=OwnB.cap ob
   clear hCa hc hb
   by_cases hE:R.er=0
   ·have fE:((R.er:Int) != 0)=false:=by rw[hE];rfl
    have hA:=hid (fun w h1 h2=>Qqu A3 B3 R.vs.length c3 R.bd.length d3 R.vs R.bd R.tk w h1 (by omega) h2 hbd)
    have hd2:arvE R.vs R.bd=0→D1=[arvA R.vs R.bd R.tk]:=fun h=>by rw[hd1,if_pos ⟨hE,h⟩]
    have hd3:arvE R.vs R.bd≠0→D1=[]:=fun h=>by rw[hd1,if_neg (fun h'=>h h'.2)]
    clear hd1 hE
    replace hd2:=hid hd2
    replace hd3:=hid hd3
    generalize arvE R.vs R.bd=AE at *
    generalize arvA R.vs R.bd R.tk=AA at *
    go_wp2_with (first
     | (refine Qa1 rfl ?_;refine Qai rfl rfl _ _ _ rfl w3.heap.size _ _ (tr1 A3 R.vs.length c3 B3 R.bd.length d3 R.tk) (Blk.new w3 _ tz0) rfl rfl 3 Qdh rfl rfl (Qhs _ _ _ _ _ _ _) ?_;intro w4 hb4 ho4
        have l4:Later w3 w4:=(Qaa w3 _).only ho4 (QGx _))
     | (refine go_l rfl ?_;refine Qan ?hw _ _ rfl w3.heap.size 0 (tr1 A3 R.vs.length c3 B3 R.bd.length d3 R.tk) (fun j v hv=>by rw[QGT];exact hb4.cellD j hv) rfl _ Tryz.underlying119 rfl Qdh ?_;(case hw=>rfl))
     | fail)
    refine (hA.out w4 (rv.later l4) (rb.later l4)).mono ?_
    rintro x w5 ⟨A5,c5,rfl,own5,l5⟩
    have L5:=((l2.trans l3).trans l4).trans l5
    by_cases hAE:AE=0
    ·subst hAE
     have hD:=hid (hd2.out rfl)
     clear hd2 hd3 hA
     go_wp2_with (first
      | (refine Qa1 rfl ?_;refine Qai rfl rfl _ _ _ rfl w5.heap.size _ _ (AvC ⟨AA,.slice A5 AA.pt.da.length c5⟩) (Blk.new w5 _ (AvC av0)) rfl rfl 24 QaN (Qam _) (Qam av0) (Qbv _ _ _ _) ?_;intro w6 hb6 ho6
         have l6:Later w5 w6:=(Qaa w5 _).only ho6 (QGx _))
      | (refine go_l rfl ?_;refine Qan ?hw _ _ rfl w5.heap.size 0 (AvC ⟨AA,.slice A5 AA.pt.da.length c5⟩) (fun j v hv=>by rw[QGT];exact hb6.cellD j hv) rfl _ Tryz.underlying114 rfl (by rw[Qam];exact QaN) ?_;(case hw=>rfl))
      | (refine go_s rfl ?_;refine Qc1 ?hw 132 _ rfl 114 24 _ (AvC ⟨AA,.slice A5 AA.pt.da.length c5⟩) Tryz.underlying132 QBV (by omega) (by omega) (Qam _) rfl ?_;(case hw=>rfl))
      | (refine go_a rfl ?_;refine Qci (F:=ArC) (d:=aw0) QbV QlR (by omega) rfl _ _ _ rfl 114 _ 96 Tryz.underlying132 QDe rfl w _ _ _ (QaB hown ((L5.trans l6).trans (Qaa _ _))) (L.trans ((L5.trans l6).trans (Qaa _ _))) (some ⟨w6.heap.size,0,none⟩) 1 1 [⟨AA,A5,AA.pt.da.length,c5⟩] (QhG QbV (show Blk (w6.alloc (.cells (ArC ⟨AA,A5,AA.pt.da.length,c5⟩).toArray 114)) w6.heap.size 114 ([(⟨AA,A5,AA.pt.da.length,c5⟩:Arw)].flatMap ArC) by simp only[QHB,List.flatMap_nil,QGW];exact Blk.new w6 _ _) rfl) rfl rfl (by omega) (by omega) ?_;intro A8 c8 w8 hown8 hl8 hg8)
      | fail)
     have L6:=L5.trans l6
     have hgo8:∀g∈gs++[⟨AA,A5,AA.pt.da.length,c5⟩],AwOk w8 w.heap.size g:=by
      intro g hg
      have hr:=QaB hown (L6.trans (Qaa w6 (.cells (ArC ⟨AA,A5,AA.pt.da.length,c5⟩).toArray 114)))
      rcases QHd.1 hg with hg|hg
      ·exact QcI (QaF (hgo g hg) (L6.trans (Qaa _ _))) hr (by decide) hg8
      ·obtain rfl:g=⟨AA,A5,AA.pt.da.length,c5⟩:=by simpa using hg
       exact QcI (QaF (Qcq own5 (L.trans ((l2.trans l3).trans l4)).size) (l6.trans (Qaa _ _))) hr (by decide) hg8
     have hgl8:(gs++[(⟨AA,A5,AA.pt.da.length,c5⟩:Arw)]).length=gs.length+1:=by simp
     exact⟨⟨k+1,gs++[⟨AA,A5,AA.pt.da.length,c5⟩],A8,c8,by omega,by go_num,by rw[hgl8],by omega,hl8,by rw[hgl8,QH3];exact hown8,hid (by rw[QG6,hgs.out,hst.out,hD.out];rfl),hgo8,hid (fun h=>by rw[hgl8]at h;omega),QxW hnd hgo ((l2.trans l3).trans l4).size own5⟩,by simp[intOf];omega⟩
    ·have fA:((AE:Int) != 0)=true:=bne_iff_ne.2 (by omega)
     have hD:=hid (hd3.out hAE)
     clear hd2 hd3 hA hAE
     go_wp2_with (first
      | (refine Qa1 rfl ?_;refine Qai rfl rfl _ _ _ rfl w5.heap.size _ _ (AvC ⟨AA,.slice A5 AA.pt.da.length c5⟩) (Blk.new w5 _ (AvC av0)) rfl rfl 24 QaN (Qam _) (Qam av0) (Qbv _ _ _ _) ?_;intro w6 hb6 ho6
         have l6:Later w5 w6:=(Qaa w5 _).only ho6 (QGx _))
      | fail)
     have L6:=L5.trans l6
     exact⟨⟨k+1,gs,A2,c2,by omega,by go_num,rfl,by omega,L.trans L6,QaB hown L6,hid (by rw[hst.out,hD.out,QGW];exact hgs.out),fun g hg=>QaF (hgo g hg) L6,hnl,hnd⟩,by simp[intOf];omega⟩
   ·have fE:((R.er:Int) != 0)=true:=bne_iff_ne.2 (by omega)
    have hD:Hid (D1=[]):=hid (by rw[hd1,if_neg (fun h=>hE h.1)])
    clear hd1 hE
    go_wp2_with (first
     | (refine Qa1 rfl ?_;refine Qai rfl rfl _ _ _ rfl w3.heap.size _ _ (tr1 A3 R.vs.length c3 B3 R.bd.length d3 R.tk) (Blk.new w3 _ tz0) rfl rfl 3 Qdh rfl rfl (Qhs _ _ _ _ _ _ _) ?_;intro w4 hb4 ho4
        have l4:Later w3 w4:=(Qaa w3 _).only ho4 (QGx _))
     | fail)
    have L4:=(l2.trans l3).trans l4
    exact⟨⟨k+1,gs,A2,c2,by omega,by go_num,rfl,by omega,L.trans L4,QaB hown L4,hid (by rw[hst.out,hD.out,QGW];exact hgs.out),fun g hg=>QaF (hgo g hg) L4,hnl,hnd⟩,by simp[intOf];omega⟩
  ·obtain rfl:k=m:=by omega
   have hU:gs.map (·.ar)=dlvU xs es:=by rw[hgs.out,QGD (by omega)]
   have hgU:gs.length=(dlvU xs es).length:=by rw[←hU,QGr]
   have hSd:(srt awK aw0 gs (gs.length-1)).map (·.ar)=dlvS xs es:=by rw[QAx,hU,dlvS,hgU]
   have hSl:(srt awK aw0 gs (gs.length-1)).length=gs.length:=Qdq _
   replace hSd:=hid hSd
   clear hU hgU
   rcases QH8 gs.length with h0|h0
   ·obtain rfl:gs=[]:=QG7 h0
    obtain rfl:=hnl.out rfl
    go_wp2_with fail
    refine (QwW c2 wr).mono ?_
    rintro e w1 ⟨rfl,rfl⟩
    go_wp2_with fail
    go_ret
    exact⟨none,c2,[],rfl,hown,Nat.zero_le _,hSd.out,by simp,by simp,L⟩
   ·obtain⟨g,rest,rfl,hbg,hB,hnc,hcm,hbl⟩:=Qf3 hown h0
    go_wp2_with fail
    refine (Qxf w.heap.size g gs.length c2 gs wr hown rfl (by omega)).mono ?_
    rintro e w1 ⟨rfl,own1,ho1⟩
    have hPm:=(Ql9 (key:=awK) (d:=aw0) (l:=gs) (gs.length-1) (by omega)).filterMap awB
    have hmem:=hid (fun x hx=>QtR (key:=awK) (d:=aw0) (l:=gs) (gs.length-1) (by omega) x hx)
    generalize srt awK aw0 gs (gs.length-1)=GS at *
    go_wp2_with fail
    go_ret
    exact⟨some ⟨g,0,none⟩,c2,GS,by rw[hSl];rfl,by rw[hSl];exact own1,by rw[hSl];exact hgl,hSd.out,fun q hq=>QaV (hgo q (hmem.out q hq)) hB (by decide) ho1,hPm.nodup_iff.2 hnd,L.only ho1 hbg⟩
section
variable {xs:List Nod} {ts:List Stp}
theorem Qfc (xs:List Nod) (ts:List Stp):(QaD xs ts).length=ts.length:=by rw[QaD,QGr]
theorem QdJ (h:QbR xs ts=0):ts.any badS=false∧1≤ts.length∧ts.length≤5∧QaG xs=0∧ts.any (Qgn xs)=false:=by
 rw[QbR]at h
 split at h
 ·cases h
 rename_i h1
 split at h
 ·cases h
 rename_i h2
 split at h
 ·contradiction
 rename_i h3
 split at h
 ·cases h
 rename_i h4
 exact⟨by simpa using h1,by omega,by omega,by omega,by simpa using h4⟩
theorem Qvy (h:QaG xs=0) {k:Nat} (hk:k<xs.length):(xs.getD k nod0).id≠0:=by
 intro e
 have hb:badN (xs.getD k nod0)=true:=by rw[badN,e];rfl
 rw[QaG]at h
 split at h
 ·cases h
 rw[if_pos (QpW hk hb)]at h
 cases h
theorem QtA (h:QbR xs ts=0):∀i,i<ts.length→((QaD xs ts).getD i hp0).nod.id≠0:=by
 obtain⟨hc,_,_,hin⟩:=Qmh h
 intro i hi
 obtain⟨k,hk,e⟩:=hin i hi
 rw[e]
 exact Qvy hc hk
theorem Qr8 (h:QbR xs ts=0) {p:Prt} (hk:p.kd=1):QeI (Qca p) (QaD xs ts)=0:=by
 obtain⟨h1,h2,h3,_,_⟩:=QdJ h
 have hid:=QtA h
 have hl:=Qfc xs ts
 have hb:(QaD xs ts).any badH=false:=by
  rw[QaD,List.any_map]
  exact h1
 have hd:((QaD xs ts).drop 1).any (fun h=>h.nod.id==0)=false:=by
  rw[QIK]
  intro q hq
  obtain⟨i,hi,rfl⟩:=QHQ hq
  rw[QGQ]at hi
  have:=hid (1+i) (by omega)
  rw[QGq,QGt (by omega),QIl]at this
  rw[List.getElem_drop]
  simpa using this
 have hc:Qca p=⟨2,0,0,0,QaH⟩:=by rw[Qca,hk];rfl
 rw[QeI,hc,if_neg (by decide),hb,if_neg (by decide),if_neg (by omega),if_neg (by decide),hd,if_neg (by decide)]
theorem QnW (hr:QbR xs ts=0) (hf:Qfh xs=true) {x:List UInt8} (hx:x.length=32) {p:Prt} (hp:prtE p=0) (hk:p.kd=1):Qgy x p (QaD xs ts)=0:=by
 obtain⟨hc,hl1,hl5,hin⟩:=Qmh hr
 have hl:=Qfc xs ts
 have hm:frmE p=0:=by rw[frmE,if_neg (by rintro⟨_,h⟩;rw[hk]at h;revert h;decide),hp]
 have hb:Qdw p=Qbo p:=by rw[Qdw,if_pos hm]
 have h480:=Qms hp
 have hft:∀i,i<(QaD xs ts).length→QbB ((QaD xs ts).getD i hp0).nod.priv.val (nb 9)=((QaD xs ts).getD i hp0).nod.pub.val:=by
  intro i hi
  obtain⟨k,hk,e⟩:=hin i (by omega)
  rw[e]
  exact QpY hf hk
 have hsc:Qdg x (pubH (QaD xs ts))=0:=by
  rw[QvW hft]
  refine Qst x hx _ (fun q hq=>?_) (by rw[QGr];omega) (by rw[QGr];omega)
  obtain⟨h',_,rfl⟩:=QG2.1 hq
  exact h'.nod.priv.2
 rw[Qgy,QbG,hm,hb]
 intro e he
 simp only[QGJ,QGK,or_false]at he
 rcases he with rfl|rfl
 ·rfl
 ·rw[Qcm,QbG,Qr8 hr hk,hsc,if_pos h480]
  simp
theorem QkB (hr:QbR xs ts=0) {s:ByteArray} (hs:s=(ts.getD (ts.length-1) stp0).nm):(QbA (QbX s 0) xs).1.id=((QaD xs ts).getD (ts.length-1) hp0).nod.id∧s.size≠0:=by
 obtain⟨_,h1,_,hc,hm⟩:=QdJ hr
 have hg:(QaD xs ts).getD (ts.length-1) hp0=Qny xs (ts.getD (ts.length-1) stp0):=by
  rw[QaD,QGq,QGF,QGt (by omega),QGq,QGt (by omega)]
  rfl
 have hmi:Qgn xs (ts.getD (ts.length-1) stp0)=false:=by
  cases e:Qgn xs (ts.getD (ts.length-1) stp0)
  ·rfl
  ·rw[QgQ (by omega) e]at hm
   cases hm
 rw[hg,Qny,←hs]
 rw[Qgn,←hs]at hmi
 have hne:s.size≠0:=by
  intro h0
  rw[Qfx]at hmi
  split at hmi
  ·rename_i x hx
   have h2:=List.find?_some hx
   have h3:=List.mem_of_find?_eq_some hx
   obtain⟨k,hk,rfl⟩:=QHQ h3
   rw[Qdf,beq_iff_eq]at h2
   have hb:badN xs[k]=true:=by
    rw[badN,QH4]
    right
    have:xs[k].nm.size=0:=by
     have:=congrArg List.length h2
     have e1:∀b:ByteArray,b.toList.length=b.size:=fun b=>by rw[ByteArray.toList_eq,Array.length_toList];rfl
     rw[e1,e1]at this
     omega
    simp[QdU,this]
   rw[QaG]at hc
   split at hc
   ·cases hc
   rw[if_pos (by rw[QHV];exact⟨_,h3,hb⟩)]at hc
   cases hc
  ·simp at hmi
 refine⟨?_,hne⟩
 have he:s.toList.isEmpty=false:=by
  cases h:s.toList with
  | nil=>
    have:=congrArg List.length h
    have e1:∀b:ByteArray,b.toList.length=b.size:=fun b=>by rw[ByteArray.toList_eq,Array.length_toList];rfl
    rw[e1]at this
    exact absurd this hne
  | cons a l=>rfl
 have hbe:QbX s 0=Qdf s:=by
  funext x
  rw[QbX,he]
  rfl
 rw[QbA,if_pos hc,hbe]
end
section
variable {α:Type} (key:α→Int) (d:α)
def Srtd (l:List α):Prop:=∀i j,i≤j→j<l.length→key (l.getD i d)≤key (l.getD j d)
theorem Qmz (l:List α) (a:α):∀k,(∀ j,insK key d l a k≤j→j<k→key a<key (l.getD j d))∧(∀ q,insK key d l a k=q+1→ ¬key a<key (l.getD q d))
 | 0=>⟨fun j _ h=>absurd h (by omega),fun q h=>by rw[insK]at h;omega⟩
 | k+1=>by
   obtain⟨h1,h2⟩:=Qmz l a k
   by_cases hk:key a<key (l.getD k d)
   ·rw[QnD key d hk]
    refine⟨fun j hj hjk=>?_,h2⟩
    by_cases e:j=k
    ·rw[e];exact hk
    ·exact h1 j hj (by omega)
   ·rw[Qnj key d hk]
    exact⟨fun j hj hjk=>absurd hjk (by omega),fun q hq=>by obtain rfl:k=q:=by omega
                                                           exact hk⟩
theorem Qqi (l:List α) (a:α) (i:Nat):(insL key d l a).getD i d=if i<insK key d l a l.length then l.getD i d else if i=insK key d l a l.length then a else l.getD (i-1) d:=by
 have hle:=QlM key d l a l.length
 rw[insL]
 generalize insK key d l a l.length=K at *
 have hl:(l.take K).length=K:=by rw[QGP];omega
 split
 ·rename_i h
  rw[QGq,QGG (by omega),QHJ,if_pos h,QGq]
 ·rename_i h
  rw[QGq,QGE (by omega),hl]
  split
  ·rename_i e
   rw[e,QHG]
   rfl
  ·rename_i e
   obtain⟨q,hq⟩:∃q,i-K=q+1:=⟨i-K-1,by omega⟩
   rw[hq,QGo,QHA,QGq,show K+q=i-1 by omega]
theorem Qpr {l:List α} (a:α) (h:Srtd key d l):Srtd key d (insL key d l a):=by
 intro i j hij hj
 rw[Qpx]at hj
 obtain⟨s1,s2⟩:=Qmz key d l a l.length
 have hle:=QlM key d l a l.length
 rw[Qqi,Qqi]
 generalize insK key d l a l.length=K at *
 have lo:∀q,q<K→key (l.getD q d)≤key a:=fun q hq=>by
  have:=s2 (K-1) (by omega)
  have:=h q (K-1) (by omega) (by omega)
  omega
 have hi:∀q,K≤q→q<l.length→key a≤key (l.getD q d):=fun q h1 h2=>by
  have:=s1 q h1 h2
  omega
 by_cases c1:i<K
 ·rw[if_pos c1]
  by_cases c2:j<K
  ·rw[if_pos c2]
   exact h i j hij (by omega)
  ·rw[if_neg c2]
   by_cases c3:j=K
   ·rw[if_pos c3]
    exact lo i c1
   ·rw[if_neg c3]
    exact h i (j-1) (by omega) (by omega)
 ·rw[if_neg c1,if_neg (show ¬j<K by omega)]
  by_cases c2:i=K
  ·rw[if_pos c2]
   by_cases c3:j=K
   ·rw[if_pos c3]
    omega
   ·rw[if_neg c3]
    exact hi (j-1) (by omega) (by omega)
  ·rw[if_neg c2,if_neg (show ¬j=K by omega)]
   exact h (i-1) (j-1) (by omega) (by omega)
theorem Qjs:∀(n:Nat) (l:List α),l.length=n→Srtd key d (srtA key d l)
 | 0,l,h=>by
   intro i j _ hj
   rw[QgL]at hj
   omega
 | n+1,l,h=>by
   have hne:l≠[]:=by rintro rfl;simp at h
   have e:=List.dropLast_concat_getLast hne
   rw[←e,Qs4]
   exact Qpr key d _ (Qjs n _ (by rw[List.length_dropLast];omega))
end
theorem Qfq {α:Type} (d:α) {l:List α} {i:Nat} (h:i<l.length):l.getD i d∈l:=by
 rw[QGq,QGt h]
 exact QHi _
theorem Qvk {xs:List Nod} {ts:List Stp} (hr:QbR xs ts=0) (hf:Qfh xs=true) {x:List UInt8} (hx:x.length=32) {p:Prt} (hp:prtE p=0) (hk:p.kd=1) {e:Emt} (h0:0≤e.tk) (h1:e.tk≤1000000)
 (e2:e.id=((QaD xs ts).getD 0 hp0).nod.id) (e3:e.bs=Qhb x p (QaD xs ts)):
 dlv1 xs e=[⟨p,2,((QaD xs ts).getD (ts.length-1) hp0).nod.id,tkR p (QaD xs ts) e.tk ts.length,QaH⟩]∧0≤tkR p (QaD xs ts) e.tk ts.length:=by
 obtain⟨_,h3,_,h5,h6⟩:=QpC hr hf (QnW hr hf hx hp hk) hk h0 h1
 refine⟨?_,(Qnq h0 _).1⟩
 rw[dlv1,e2,e3,h3,if_pos ⟨rfl,h5⟩,h6]
theorem QyJ {xs:List Nod} {es:List Emt} {F:Nat→Arr} (h:∀j,j<es.length→dlv1 xs (es.getD j emt0)=[F j]):dlvU xs es=(QG0 es.length).map F:=by
 have:∀k,k≤es.length→dlvU xs (es.take k)=(QG0 k).map F:=by
  intro k
  induction k with
  | zero=>intro _;rfl
  | succ k ih=>
    intro hk
    rw[Qn1 xs es k (by omega),ih (by omega),h k (by omega),QH5,QG6]
    rfl
 have:=this es.length (QGx _)
 rwa [QGD (QGx _)]at this
theorem QsN {xs:List Nod} {es:List Emt} {msg:List UInt8} {to:UInt64} {tkf:Nat→Int} (hm:msg.length≤7200) (hl:es.length=QbN msg.length+1)
 (h:∀j,j<es.length→dlv1 xs (es.getD j emt0)=[⟨Qb7 7 msg (j%QbN msg.length),2,to,tkf j,QaH⟩]∧0≤tkf j):
 (dlvS xs es).length=es.length∧(∀ i,i<es.length→∃j,(dlvS xs es).getD i arr0=⟨Qb7 7 msg j,2,to,((dlvS xs es).getD i arr0).tk,QaH⟩∧0≤((dlvS xs es).getD i arr0).tk)∧Srtd Arr.tk arr0 (dlvS xs es)∧
   ∃t,t<es.length∧ltrs (dlvS xs es) es.length=[⟨to,7,((dlvS xs es).getD t arr0).tk,msg⟩]:=by
 have hc:=Qgh hm
 have hU:=QyJ (F:=fun j=>⟨Qb7 7 msg (j%QbN msg.length),2,to,tkf j,QaH⟩) (fun j hj=>(h j hj).1)
 have hUl:(dlvU xs es).length=es.length:=by rw[hU,QGr,List.length_range]
 have hS:dlvS xs es=srtA Arr.tk arr0 (dlvU xs es):=rfl
 have hSl:(dlvS xs es).length=es.length:=by rw[hS,QgL,hUl]
 have hPm:(dlvS xs es).Perm (dlvU xs es):=Ql9 (key:=Arr.tk) (d:=arr0) (l:=dlvU xs es) _ (by omega)
 have hso:Srtd Arr.tk arr0 (dlvS xs es):=by rw[hS];exact Qjs Arr.tk arr0 _ _ rfl
 have hin:∀a,a∈dlvS xs es↔∃j,j<es.length∧a=⟨Qb7 7 msg (j%QbN msg.length),2,to,tkf j,QaH⟩:=by
  intro a
  rw[hPm.mem_iff,hU,QG2]
  constructor
  ·rintro⟨j,hj,rfl⟩
   exact⟨j,QHg.1 hj,rfl⟩
  ·rintro⟨j,hj,rfl⟩
   exact⟨j,QHg.2 hj,rfl⟩
 have hat:∀i,i<es.length→∃j,(dlvS xs es).getD i arr0=⟨Qb7 7 msg (j%QbN msg.length),2,to,((dlvS xs es).getD i arr0).tk,QaH⟩∧0≤((dlvS xs es).getD i arr0).tk:=by
  intro i hi
  obtain⟨j,hj,e⟩:=(hin _).1 (Qfq arr0 (l:=dlvS xs es) (by omega:i<_))
  exact⟨j,by rw[e],by rw[e];exact (h j hj).2⟩
 refine⟨hSl,fun i hi=>by obtain⟨j,e⟩:=hat i hi;exact⟨_,e⟩,hso,?_⟩
 obtain⟨t,ht,e⟩:=Qo0 (id:=7) (msg:=msg) hm (to:=to) (tk:=fun i=>((dlvS xs es).getD i arr0).tk) (ps:=(dlvS xs es).map (·.pt)) (qas:=dlvS xs es) (z:=QaH)
  (fun p hp=>by
    obtain⟨a,ha,rfl⟩:=QG2.1 hp
    obtain⟨j,_,rfl⟩:=(hin a).1 ha
    exact QG2.2 ⟨j%QbN msg.length,QHg.2 (QGU _ (by omega)),rfl⟩)
  (fun p hp=>by
    obtain⟨i,hi,rfl⟩:=QG2.1 hp
    have hi':=QHg.1 hi
    refine QG2.2 ⟨_,(hin _).2 ⟨i,by omega,rfl⟩,?_⟩
    show Qb7 7 msg (i%QbN msg.length)=_
    rw[QGO hi'])
  (fun i p hp=>by
    rw[QGF]at hp
    have hi:i<(dlvS xs es).length:=by
     rcases QHb i (dlvS xs es).length with h|h
     ·exact h
     ·rw[QHF h]at hp
      cases hp
    obtain⟨j,e,_⟩:=hat i (by omega)
    rw[QGt hi]at hp ⊢
    have hg:(dlvS xs es).getD i arr0=(dlvS xs es)[i]:=by rw[QGq,QGt hi];rfl
    rw[←hg]at hp ⊢
    have hp':((dlvS xs es).getD i arr0).pt=p:=by simpa using hp
    rw[Option.some.injEq]
    rw[e]at hp' ⊢
    subst hp'
    rfl)
 rw[QGr]at ht e
 exact⟨t,by omega,by rw[←hSl];exact e⟩
end Go.Proofs.YtdhgpkdjdmlphaaGreat
