/-
  Lemmas for the last text of this claim (part 19 of 20).
-/
import Derived.ArgAppend
import Derived.BigQuiet
import Derived.BigRegion
import Derived.ChangeOld
import Derived.Deep.RegionWith
import Derived.DeepKeys4
import Derived.JoinedCond
import Derived.LaidMore
import Derived.Laws.CopyOwn
import Derived.Laws.Externs
import Derived.Laws.IdiomStrings
import Derived.Laws.Tables
import Derived.Lib.AppendStr
import Derived.Lib.AppendZerosOnto
import Derived.Lib.Mul64
import Derived.Lib.SlBytesConst
import Derived.LoopN
import Derived.Maps.OwnSet
import Derived.OpenShut
import Derived.OrdersHeld
import Derived.ProofKit
import Derived.Shelf.Spec.BitsCarry
import Derived.ShutString
import Derived.Test.YtcbdgnlcknllnaaGreatProg
import Derived.Test.YtcbdgnlcknllnaaGreatRows
import Derived.WalkKit
import Derived.WalkLawsBesides
import Derived.WalkSpells
import Derived.Test.YtcbdgnlcknllnaaGreatQJ
import Derived.Test.YtcbdgnlcknllnaaGreatQL
import Derived.Test.YtcbdgnlcknllnaaGreatQQ
import Derived.Test.YtcbdgnlcknllnaaGreatQR
open List renaming replicate → Qyl, getElem?_cons_succ → Qym, getElem?_cons_zero → Qyn, length_map → Qyo, getElem?_eq_getElem → Qyq, nil_append → Qyr, cons_append → Qys, getD_eq_getElem?_getD → Qyt, setIfInBounds_toArray → Qyu, map_toArray → Qyw, set_cons_zero → Qyx, set_cons_succ → Qyy, take_of_length_le → QyA, map_nil → QyD, getElem?_map → QyF, mem_cons → QyI, map_cons → QyJ, append_assoc → QyK, not_mem_nil → QyN, length_replicate → QyO, length_drop → QyQ, take_succ_eq_append_getElem → QyR, append_nil → QyT, length_take → QyW, map_append → QyZ, mem_map → Qy1, eq_nil_of_length_eq_zero → Qy4, mem_append → Qy8, getElem_mem → Qzk, flatMap_cons → Qzl, mem_cons_of_mem → QzF, mem_singleton → QzI, mem_filterMap → QzR, flatMap_append → QAg, mem_cons_self → QAk, map_set → QAu
open Nat renaming le_refl → Qyv, zero_add → QyE, le_trans → QyX, eq_zero_or_pos → Qz5, zero_le → QAa, le_of_eq → QAp
open Option renaming toList_some → Qyp, bind_some → QAb
set_option linter.all false
namespace Go.Proofs.YtcbdgnlcknllnaaGreat
open Go.RowKit
open Go.BigFrame
abbrev emC (tk:Int) (id:UInt64) (B:Option Addr) (m e:Nat):List Value:=[.int .i64 tk,W64 id,.slice B m e]
section
variable {P:Program} {ops:Array Oper} {rest:List Oper} {o:Oper} {a:Act} {w:World} {Q:Exit→Act→World→Prop} {t:TypeId}
theorem go_b {p:Array (Nat×Operand)} (_ho:o.op= .build t p) (h:wpList P ops Q (o :: rest) a w):wpList P ops Q (o :: rest) a w:=h
theorem go_s {p:Array (Nat×Operand)} (_ho:o.op= .buildSlice t 1 p) (h:wpList P ops Q (o :: rest) a w):wpList P ops Q (o :: rest) a w:=h
theorem go_a {s x:Operand} (_ho:o.op= .call { callee:=.builtin .append,args:= #[s,x],argTypes:= #[t,t] }) (h:wpList P ops Q (o :: rest) a w):wpList P ops Q (o :: rest) a w:=h
theorem go_l {x:Operand} (_ho:o.op= .load t x) (h:wpList P ops Q (o :: rest) a w):wpList P ops Q (o :: rest) a w:=h
theorem QbS {x y:Operand} (_ho:o.op= .store t x y) (h:wpList P ops Q (o :: rest) a w):wpList P ops Q (o :: rest) a w:=h
end
theorem QoL (xs:List Nod):QbW [0,Qbi xs]=Qbi xs∧QbW [2,Qbi xs]=2:=by
 have h:Qbi xs=0∨2≤Qbi xs:=by
  unfold Qbi
  split
  ·exact .inr (by omega)
  split
  ·exact .inr (by omega)
  split
  ·exact .inr (by omega)
  ·exact .inl rfl
 generalize Qbi xs=x at *
 unfold QbW
 simp only[List.foldl_cons,List.foldl_nil]
 rcases h with rfl|h
 ·exact⟨rfl,rfl⟩
 ·have hx:x≠0:=by omega
  have h2: ¬x<2:=by omega
  exact⟨by simp[hx],by simp[hx,h2]⟩
theorem Qo1 (A:Option Addr) (n c:Nat):Tryz.prog.built 41 [(0,.slice A n c)]=some (tr1 A n c none 0 0 0).toArray:=by kernel_rfl
theorem Qik {ops:Array Oper} {o:Oper} {a:Act} (hw:Region.wanted o (yielded ops a.tmps)=true) (ho:o.op= .alloc 110):
 Makes Tryz.prog ops o (fun g=>.pointer (some ⟨g,0,none⟩)) (.cells Tryz.zeroCells110 110) a:=
 ⟨hw,fun w=>by
   unfold execOp
   rw[ho]
   simp[go_sem]⟩
set_option maxRecDepth 100000 in
theorem QfO (x:Nod) (w:World):
 Calls Tryz.prog 35 #[.agg (NC x).toArray] w fun e w'=>∃g,e= .returned (.slice (some ⟨g,0,none⟩) 32 32)∧w.heap.size≤g∧Blk w' g 5 (x.priv.val.map W8)∧Later w w':=by
 have hb0:Blk (w.alloc (.cells (NC x).toArray 106)) w.heap.size 106 (NC x):=Blk.new _ _ _
 have hc:∀j v,(x.priv.val.map W8)[j]?=some v→(w.alloc (.cells (NC x).toArray 106)).cell? ⟨w.heap.size,2+j,none⟩=some v:=fun j v hv=>hb0.cellD _ (Quh x hv)
 go_enter Tryz.func35,Tryz.ntmps35
 go_wp2_with (first
  | (refine Qth rfl _ rfl hc x.priv.2 rfl ?_)
  | fail)
 (with_reducible refine (QkB x.priv.val x.priv.2 _).mono ?_);rintro e w2 ⟨g2,rfl,hg2,hb2,l2⟩
 go_wp2
 go_ret
 exact⟨g2,rfl,by simp at hg2;omega,hb2,(Qaa _ _).trans l2⟩
theorem Qxm {a:Int} {d:Nat} (h:0≤a):0≤a+(d:Int):=by omega
theorem Qxy {a:Int} {d n:Nat} (h:a≤1099511627776+(n:Int)*4294967296) (hd:d<4294967296):a+(d:Int)≤1099511627776+((n+1:Nat):Int)*4294967296:=by omega
set_option maxRecDepth 100000 in
set_option maxHeartbeats 4000000 in
theorem QhV (A B:Option Addr) (n c m e:Nat) (xs:List Nod) (tk:Int) (id:UInt64) (b:List UInt8) (w:World) (hx:RdN w A n xs) (hn:n≤1048576) (hs:∀x∈xs,x.nm.size≤140737488355328) (hb:RdB w B m b) (hme:m≤e):
 Calls Tryz.prog 11 #[.slice A n c,.agg (emC tk id B m e).toArray] w fun x w'=>∃A' c' B' c2,x= .returned (.tuple #[.agg (tr1 A' (Qa7 xs tk id b).vs.length c' B' (Qa7 xs tk id b).bd.length c2 (Qa7 xs tk id b).tk).toArray,.int .i64 ((Qa7 xs tk id b).er:Nat)])∧
  RdF VC 22 vst0 w' A' (Qa7 xs tk id b).vs.length (Qa7 xs tk id b).vs∧OwnB w' w.heap.size B' (Qa7 xs tk id b).bd.length c2 (Qa7 xs tk id b).bd∧Later w w':=by
 have hbl:=hb.len
 have C1:=Qbh w 27 (emC tk id B m e)
 have C2:Bag w ((w.alloc (.cells (emC tk id B m e).toArray 27)).alloc (.cells tz0.toArray 41)) [(w.heap.size+1,41,tz0),(w.heap.size,27,emC tk id B m e)]:=
  C1.add (Qaa _ _) (by simp) (by omega) (Blk.new' _ _ tz0 (by simp))
 have e0:=(C2.nth 1 rfl).cellD 0 (u:=.int .i64 tk) rfl
 have e2:=(C2.nth 1 rfl).cellD 2 (u:=.slice B m e) rfl
 have hz:=hid Qjr
 have hbt:=hid Qo1
 have hbv:=hid QpX
 have hE0:Hid (QgW tk b xs≠0→Qa7 xs tk id b=⟨[],[],0,QgW tk b xs⟩):=hid (fun h=>if_pos h)
 have hE1:Hid (QgW tk b xs=0→Qa7 xs tk id b=QdU xs 16 id tk b []):=hid (fun h=>if_neg (not_not_intro h))
 have hCk:=hid (fun w h=>Qh1 A n c xs w h (by omega) hs)
 obtain⟨l0,l2⟩:=QoL xs
 generalize Qa7 xs tk id b=R at *
 by_cases ht:tk<0∨1099511627776<tk
 ·have hE:QgW tk b xs=1:=if_pos ht
  have hR:=hE0.out (by rw[hE];decide)
  rw[hE]at hR
  replace hR:=hid hR
  clear hE hE0 hE1 hCk l0 l2
  by_cases h0:tk<0
  ·have f0:decide (tk<0)=true:=decide_eq_true h0
   clear ht h0
   go_enter Tryz.func11,Tryz.ntmps11
   go_wp2_with (first
    | (refine go_b rfl ?_;refine Qah ?hw 41 _ rfl tz0 (by simp only[Qyw,QyD];exact hz.out) ?_;(case hw=>rfl))
    | (refine QbS rfl ?_;refine Qae rfl rfl _ _ _ rfl (w.heap.size+1) _ _ tz0 (C2.nth 0 rfl) rfl rfl 3 Qbp rfl rfl Qgt ?_;intro w5 hb5 ho5)
    | fail)
   exact bodyPost_ret (Qaf rfl _ _ _ _ _ _ hb5 rfl Tryz.underlying41 rfl Qbp) rfl ⟨none,0,none,0,by rw[hR.out];rfl,by rw[hR.out];exact QfW _,by rw[hR.out];exact QaZ _ _ _,C2.lat.only ho5 (by omega)⟩
  ·have f0:decide (tk<0)=false:=decide_eq_false h0
   have f1:decide (1099511627776<tk)=true:=decide_eq_true (ht.resolve_left h0)
   clear ht h0
   go_enter Tryz.func11,Tryz.ntmps11
   go_wp2_with (first
    | (refine go_b rfl ?_;refine Qah ?hw 41 _ rfl tz0 (by simp only[Qyw,QyD];exact hz.out) ?_;(case hw=>rfl))
    | (refine QbS rfl ?_;refine Qae rfl rfl _ _ _ rfl (w.heap.size+1) _ _ tz0 (C2.nth 0 rfl) rfl rfl 3 Qbp rfl rfl Qgt ?_;intro w5 hb5 ho5)
    | fail)
   exact bodyPost_ret (Qaf rfl _ _ _ _ _ _ hb5 rfl Tryz.underlying41 rfl Qbp) rfl ⟨none,0,none,0,by rw[hR.out];rfl,by rw[hR.out];exact QfW _,by rw[hR.out];exact QaZ _ _ _,C2.lat.only ho5 (by omega)⟩
 have f0:decide (tk<0)=false:=decide_eq_false (fun h=>ht (.inl h))
 have f1:decide (1099511627776<tk)=false:=decide_eq_false (fun h=>ht (.inr h))
 have HZ:=hid zcP
 have hZl:(Qyl 768 (0:UInt8)).length=768:=QyO
 have hZl1:((Qyl 768 (0:UInt8)).map W8).length=768:=by rw[Qyo,hZl]
 obtain⟨PK,se,hPK,hE,hs0,hPa⟩:∃(PK:List UInt8) (se:Nat),PK.length=768∧QgW tk b xs=QbW [se,Qbi xs]∧(QbW [se,Qbi xs]=0→PK=b)∧Hid (∀ w,RdB w B m b→Calls Tryz.prog 30 #[.slice B m e] w fun x w'=>x= .returned (.tuple #[.agg (PK.map W8).toArray,.int .i64 (se:Nat)])∧Later w w'):=by
  by_cases h:m=768
  ·subst h
   exact⟨b,0,hbl,by rw[QgW,if_neg ht,if_pos hbl],fun _=>rfl,hid (fun w h=>QmV B e b w h hme)⟩
  ·exact⟨Qyl 768 0,2,hZl,by rw[QgW,if_neg ht,if_neg (by rw[hbl];exact h)],fun h=>absurd (l2.symm.trans h) (by decide),hid (fun w _=>QmH B m e w h)⟩
 rw[hE]at hE0 hE1
 generalize Qyl 768 (0:UInt8)=Z at *
 have hLe:=hid (fun g (w:World) h=>Qmm (some ⟨g,0,none⟩) 2 2 [se,Qbi xs] w h (by omega))
 clear hE l0 l2 ht
 generalize QbW [se,Qbi xs]=E at *
 generalize hCN:Qbi xs=CN at *
 clear hCN
 go_enter Tryz.func11,Tryz.ntmps11
 go_wp2_with fail
 refine (hPa.out _ (hb.later C2.lat)).mono ?_
 rintro x w2 ⟨rfl,j2⟩
 have C3:=C2.later j2
 go_wp2_with (first
  | (refine QbS rfl ?_;refine QeT rfl rfl _ _ rfl ((Blk.new w2 _ Tryz.zeroCells100.toList).cast HZ.out) rfl rfl hPK hZl1 ?_;intro w3 hb3 ho3
     have l3:Later w2 w3:=(Qaa w2 _).only ho3 (Qyv _)
     have C4:=C3.fresh l3 (Qyv _) hb3)
  | fail)
 refine (hCk.out _ (hx.later C4.lat)).mono ?_
 rintro x w4 ⟨rfl,j4⟩
 have C5:=C4.later j4
 go_wp2_with fail
 have C6:=C5.later (Qaa w4 (.cells [eVM se,eVM CN].toArray 42))
 have hrd:Rd (w4.alloc (.cells [eVM se,eVM CN].toArray 42)) (some ⟨w4.heap.size,0,none⟩) 2 ([se,CN].map eVM):=(Blk.new w4 42 [eVM se,eVM CN]).rd rfl
 refine (hLe.out w4.heap.size _ hrd).mono ?_
 rintro x w5 ⟨rfl,j5⟩
 have C7:=C6.later j5
 have hlat7:=C7.lat
 clear hrd C3 C4 C5 C6 e0 e2 hb3 ho3 hPa hCk hLe
 by_cases hE:E=0
 case neg=>
  have hR:=hid (hE0.out hE)
  have fE:((E:Int) != 0)=true:=bne_iff_ne.2 (by omega)
  clear hE hE0 hE1 hs0
  go_wp2_with (first
   | (refine go_b rfl ?_;refine Qah ?hw 41 _ rfl tz0 (by simp only[Qyw,QyD];exact hz.out) ?_;(case hw=>rfl))
   | (refine QbS rfl ?_;refine Qae rfl rfl _ _ _ rfl (w.heap.size+1) _ _ tz0 (C7.nth 1 rfl) rfl rfl 3 Qbp rfl rfl Qgt ?_;intro w6 hb6 ho6)
   | fail)
  exact bodyPost_ret (Qaf rfl _ _ _ _ _ _ hb6 rfl Tryz.underlying41 rfl Qbp) rfl ⟨none,0,none,0,by rw[hR.out];rfl,by rw[hR.out];exact QfW _,by rw[hR.out];exact QaZ _ _ _,C7.lat.only ho6 (by omega)⟩
 have hR:=hid (hE1.out hE)
 obtain rfl:=hs0 hE
 subst hE
 clear hE0 hE1 hs0
 go_wp2_with fail
 have C8:Bag w (w5.alloc (.cells tz0.toArray 41)) [(w5.heap.size,41,tz0),(w2.heap.size,100,PK.map W8),(w.heap.size+1,41,tz0),(w.heap.size,27,emC tk id B m e)]:=C7.fresh (Qaa _ _) (Qyv _) (Blk.new _ _ _)
 have n69:w2.heap.size≠w5.heap.size:=by
  have:=(C7.nth 0 rfl).lt
  omega
 generalize w5.heap.size=g9 at *
 generalize w2.heap.size=g6 at *
 generalize w5.alloc (.cells tz0.toArray 41)=W at *
 have e0:=(C8.nth 3 rfl).cellD 0 (u:=.int .i64 tk) rfl
 have e1:=(C8.nth 3 rfl).cellD 1 (u:=W64 id) rfl
 clear C7 hlat7
 refine Qad [] [0,1,2,3,4,5] [] (by as_aux_lemma=>kernel_rfl) (by as_aux_lemma=>kernel_rfl) (by intro _ _ d _ _ h;cases d<;>exact h) ?_
 simp only[Qaj,pick,Qym,Qyn,Qyp,Qys,Qyr]
 repeat (go_big_quiet_step (fail))
 refine wpQuiet_nil ?_
 go_wp2_with fail
 have ht0:0≤tk∧tk≤1099511627776:=by
  have a1:=of_decide_eq_false f0
  have a2:=of_decide_eq_false f1
  omega
 clear f0 f1
 go_loopw [10,11] (fun v10 v11 wr=>∃(k:Nat) (id2:UInt64) (tk2:Int) (p:List UInt8) (vs:List Vst) (A2:Option Addr) (c2:Nat),v10=W64 id2∧v11= .int .i64 tk2∧vs.length+k=16∧p.length=768∧0≤tk2∧tk2≤1099511627776+(vs.length:Int)*4294967296∧
  Bag w wr [(g9,41,tr1 A2 vs.length c2 none 0 0 0),(g6,100,p.map W8),(w.heap.size+1,41,tz0),(w.heap.size,27,emC tk id B m e)]∧wr.ownsRow w.heap.size 57 22 (.slice A2 vs.length c2) vs.length (vs.flatMap VC)∧Hid (R=QdU xs k id2 tk2 p vs)) (fun _ _ w'=>match w'.cell? ⟨g9,0,none⟩ with|some (.slice _ n _)=>16-n|_=>0)
 case atStart=>exact⟨16,id,tk,PK,[],none,0,rfl,rfl,rfl,hPK,ht0.1,by simp;omega,C8.drew,⟨by simp,.inl ⟨rfl,rfl⟩⟩,hR⟩
 case round=>
  clear C8 hR ht0 e0 e1
  obtain⟨k,id2,tk2,p,vs,A2,c2,rfl,rfl,hvk,hpl,ht2,ht3,C,hown,hR⟩:=hrel
  have z0:=(C.nth 0 rfl).cellD 0 (u:=.slice A2 vs.length c2) rfl
  rcases k with _|k
  ·have f16:((vs.length:Int)==16)=true:=beq_iff_eq.2 (by omega)
   have hR0:R=⟨vs,[],0,11⟩:=hR.out
   replace hR0:=hid hR0
   clear hR
   go_wp2_with (first
    | (refine go_b rfl ?_;refine Qah ?hw 41 _ rfl (tr1 A2 vs.length c2 none 0 0 0) (by simp only[Qyw,QyJ,QyD];exact hbt.out _ _ _) ?_;(case hw=>rfl))
    | (refine QbS rfl ?_;refine Qae rfl rfl _ _ _ rfl (w.heap.size+1) _ _ (tr1 A2 vs.length c2 none 0 0 0) (C.nth 2 rfl) rfl rfl 3 Qbp rfl rfl (QdX _ _ _ _ _ _ _) ?_;intro w6 hb6 ho6)
    | fail)
   have own6:=QaM hown (C.nth 2 rfl) (by decide) ho6
   exact bodyPost_ret (Qaf rfl _ _ _ _ _ _ hb6 rfl Tryz.underlying41 rfl Qbp) rfl ⟨A2,c2,none,0,by rw[hR0.out];rfl,by rw[hR0.out];exact Qev (d:=vst0) Qax own6 rfl,by rw[hR0.out];exact QaZ _ _ _,C.lat.only ho6 (by omega)⟩
  have f16:((vs.length:Int)==16)=false:=beq_eq_false_iff_ne.2 (by omega)
  have hAt:=hid (fun w h=>Qtu A n c xs id2 w h (by omega) hs)
  have r1:=hid (fun h=>hR.out.trans (Qmd (xs:=xs) (k:=k) (id:=id2) (tk:=tk2) (p:=p) (vs:=vs) h))
  have r2:=hid (fun h h1=>hR.out.trans (Qm1 (xs:=xs) (k:=k) (id:=id2) (tk:=tk2) (p:=p) (vs:=vs) h h1))
  have r3:=hid (fun h h1 h2=>hR.out.trans (QnX (xs:=xs) (k:=k) (id:=id2) (tk:=tk2) (p:=p) (vs:=vs) h h1 h2))
  have r4:=hid (fun h h1 h2=>hR.out.trans (QrB (xs:=xs) (k:=k) (id:=id2) (tk:=tk2) (p:=p) (vs:=vs) h h1 h2))
  clear hR
  generalize (Qbq (byId id2) xs).2=FE at *
  generalize (Qbq (byId id2) xs).1=FN at *
  go_wp2_with fail
  refine (hAt.out wr (hx.later C.lat)).mono ?_
  rintro x x1 ⟨rfl,i1⟩
  have D1:=C.later i1
  have own1:=QaF hown i1
  have hz0:=hid z0
  clear hAt z0
  by_cases hFE:FE≠0
  ·have fE:((FE:Int) != 0)=true:=bne_iff_ne.2 (by omega)
   have hR0:=hid (r1.out hFE)
   clear r1 r2 r3 r4 hFE
   go_wp2_with (first
    | (refine QbS rfl ?_;refine QdW Qdp rfl rfl _ _ rfl (Blk.new x1 _ (NC nod0)) rfl rfl (QaR _) ?_;intro x2 hb2 ho2
       have l2:Later x1 x2:=(Qaa x1 _).only ho2 (Qyv _)
       have D2:=D1.later l2
       have z2:=(D2.nth 0 rfl).cellD 0 (u:=.slice A2 vs.length c2) rfl)
    | (refine go_b rfl ?_;refine Qah ?hw 41 _ rfl (tr1 A2 vs.length c2 none 0 0 0) (by simp only[Qyw,QyJ,QyD];exact hbt.out _ _ _) ?_;(case hw=>rfl))
    | (refine QbS rfl ?_;refine Qae rfl rfl _ _ _ rfl (w.heap.size+1) _ _ (tr1 A2 vs.length c2 none 0 0 0) (D2.nth 2 rfl) rfl rfl 3 Qbp rfl rfl (QdX _ _ _ _ _ _ _) ?_;intro w6 hb6 ho6)
    | fail)
   have own6:=QaM (QaF own1 l2) (D2.nth 2 rfl) (by decide) ho6
   exact bodyPost_ret (Qaf rfl _ _ _ _ _ _ hb6 rfl Tryz.underlying41 rfl Qbp) rfl ⟨A2,c2,none,0,by rw[hR0.out];rfl,by rw[hR0.out];exact Qev (d:=vst0) Qax own6 rfl,by rw[hR0.out];exact QaZ _ _ _,D2.lat.only ho6 (by omega)⟩
  replace r2:=hid (r2.out hFE)
  replace r3:=hid (r3.out hFE)
  replace r4:=hid (r4.out hFE)
  obtain rfl:FE=0:=Classical.not_not.1 hFE
  clear r1 hFE
  go_wp2_with (first
   | (refine QbS rfl ?_;refine QdW Qdp rfl rfl _ _ rfl (Blk.new x1 _ (NC nod0)) rfl rfl (QaR _) ?_;intro x2 hb2 ho2
      have l2:Later x1 x2:=(Qaa x1 _).only ho2 (Qyv _)
      have D2:=D1.fresh l2 (Qyv _) hb2
      have own2:=QaF own1 l2)
   | fail)
  generalize x1.heap.size=gn at *
  have hUn:=hid (fun A2 c2 w h=>QmZ A2 32 c2 FN.priv.val p w h (by omega) hpl)
  have hPv:=hid (fun w=>QfO FN w)
  clear hb2 ho2 l2 D1 own1 i1 C hown
  have hUP:=QgR FN.priv.val p hpl
  have HZp:=hid zcPe
  have hzl:(PC cmd0 z768 nil8).length=789:=Qbf _ Qaz _
  generalize unwE FN.priv.val p=UE at *
  generalize unwC FN.priv.val p=UC at *
  generalize unwP FN.priv.val p=UP at *
  generalize unwB FN.priv.val p=UB at *
  refine Qa1 [0,2] [([],1,1),([],1,3),([4,5,6],2,7)] [] [8,9] [7] (fun _=>(fun g=>.pointer (some ⟨g,0,none⟩),.cells Tryz.zeroCells110 110)) (by as_aux_lemma=>kernel_rfl) (by as_aux_lemma=>kernel_rfl) (by intro _ _ d _ _ h;cases d<;>exact h) (by intro _ _ d _ _ h;cases d<;>exact h) ?_
  simp only[pick,Qym,Qyn,Qyp,Qys,Qyr]
  repeat (first|go_big_quiet_skip|(go_big_quiet_want;(first|refine Qks _ rfl (fun i v hv=>by rw[QyE];exact (D2.drew.nth 0 rfl).cellD i hv) (D2.drew.nth 0 rfl).lt rfl ?_|refine QcJ _ _ rfl 0 (p.map W8) (D2.drew.nth 2 rfl) rfl (fun j v hv=>by rw[QyE];exact hv) _ Tryz.underlying100 rfl (by rw[Qyo,hpl];exact Qfj) ?_);simp only[Act.put,Qyu,Qyy,Qyx];go_big_quiet_on)|(go_big_quiet_step (fail)))
  refine wpQuiet_nil ?_
  refine⟨?mk,?_⟩
  case mk=>
   refine⟨fun o ho=>?_,trivial⟩
   simp only[Qym,Qyn,Option.some.injEq]at ho
   subst ho
   exact Qik rfl rfl
  simp only[QbA,pick,Qym,Qyn,Qyp,Qys,Qyr]
  refine wpQuiet_nil ?_
  intro m1 j1'
  go_wp2_with fail
  refine (hPv.out _).mono ?_
  rintro x m2 ⟨gk,rfl,hgk,hbk,j2'⟩
  go_wp2_with fail
  try refine⟨by first|assumption|exact Qab _|exact Qaa _ _|exact Later.refl _,?_⟩
  try simp only[Qaj,pick,Qym,Qyn,Qyp,Qys,Qyr]
  repeat (go_big_quiet_step (fail))
  refine wpQuiet_nil ?_
  intro m3 j3'
  go_wp2_with fail
  refine (hUn.out _ _ _ (QgB (hbk.later j3') FN.priv.2)).mono ?_
  rintro x m4 ⟨AB,cB,rfl,ownB,j4'⟩
  go_wp2_with fail
  try refine⟨by first|assumption|exact Qab _|exact Qaa _ _|exact Later.refl _,?_⟩
  try simp only[Qaj,pick,Qym,Qyn,Qyp,Qys,Qyr]
  repeat (go_big_quiet_step (fail))
  refine wpQuiet_nil ?_
  intro m5 gp j5' hgp _ hbp
  refine wpQuiet_nil ?_
  intro m6 j6'
  simp only[Qym,Qyn,QAb,Act.put,Qyu,Qyy,Qyx]
  have hB6:Blk m6 gp 110 (PC cmd0 z768 nil8):=(Blk.later (show Blk m5 gp _ Tryz.zeroCells110.toList from hbp) j6').cast HZp.out
  have jj:=((j1'.trans j2').trans (j3'.trans j4')).trans (j5'.trans j6')
  have ownB6:=QbR (Qay ownB (j5'.trans j6')) (QyX D2.lat.size (QyX (Qab x2).size ((j1'.trans j2').trans j3').size))
  have own6:=QaF own2 ((Qab x2).trans jj)
  have D6:=D2.drew.fresh jj hgp hB6
  clear hbk hgk ownB j1' j2' j3' j4' j5' j6' hbp hB6 jj D2 own2 hUn hPv
  by_cases hUE:UE≠0
  ·have fU:((UE:Int) != 0)=true:=bne_iff_ne.2 (by omega)
   have hR0:=hid (r2.out hUE)
   clear r2 r3 r4 hUE
   go_wp2_with (first
    | (refine QbS rfl ?_;refine Qc5 rfl rfl _ _ rfl (D6.nth 0 rfl) rfl rfl hUP rfl hzl ?_;intro m7 hb7 ho7
       have D7:=D6.write 0 rfl ho7 hb7
       have own7:=QaM own6 (D6.nth 0 rfl) (by decide) ho7
       have z2:=(D7.nth 2 rfl).cellD 0 (u:=.slice A2 vs.length c2) rfl)
    | (refine go_b rfl ?_;refine Qah ?hw 41 _ rfl (tr1 A2 vs.length c2 none 0 0 0) (by simp only[Qyw,QyJ,QyD];exact hbt.out _ _ _) ?_;(case hw=>rfl))
    | (refine QbS rfl ?_;refine Qae rfl rfl _ _ _ rfl (w.heap.size+1) _ _ (tr1 A2 vs.length c2 none 0 0 0) (D7.nth 4 rfl) rfl rfl 3 Qbp rfl rfl (QdX _ _ _ _ _ _ _) ?_;intro m8 hb8 ho8)
    | fail)
   have own8:=QaM own7 (D7.nth 4 rfl) (by decide) ho8
   exact bodyPost_ret (Qaf rfl _ _ _ _ _ _ hb8 rfl Tryz.underlying41 rfl Qbp) rfl ⟨A2,c2,none,0,by rw[hR0.out];rfl,by rw[hR0.out];exact Qev (d:=vst0) Qax own8 rfl,by rw[hR0.out];exact QaZ _ _ _,D7.lat.only ho8 (by omega)⟩
  replace r3:=hid (r3.out hUE)
  replace r4:=hid (r4.out hUE)
  obtain rfl:UE=0:=Classical.not_not.1 hUE
  clear r2 hUE
  go_wp2_with (first
   | (refine QbS rfl ?_;refine Qc5 rfl rfl _ _ rfl (D6.nth 0 rfl) rfl rfl hUP rfl hzl ?_;intro m7 hb7 ho7
      have D7:=D6.write 0 rfl ho7 hb7
      have own7:=QaM own6 (D6.nth 0 rfl) (by decide) ho7
      have ownB7:=QaM ownB6 (D6.nth 0 rfl) (by decide) ho7
      have z2:=(D7.nth 2 rfl).cellD 0 (u:=.slice A2 vs.length c2) rfl)
   | (refine go_l rfl ?_;refine Qam ?hw _ _ rfl gp 0 (CC UC) (fun j v hv=>(D7.nth 0 rfl).cellD (0+j) (QiS _ _ _ j v hv)) rfl _ Tryz.underlying55 rfl (by rw[Qao];exact Qic) ?_;(case hw=>rfl))
   | (refine go_b rfl ?_;refine Qah ?hw 57 _ rfl (VC ⟨UC,id2,tk2⟩) (by simp only[Qyw,QyJ,QyD];exact hbv.out ⟨UC,id2,tk2⟩) ?_;(case hw=>rfl))
   | (refine go_s rfl ?_;refine Qdm ?hw 39 _ rfl 57 22 _ (VC ⟨UC,id2,tk2⟩) Tryz.underlying39 Qs5 (by omega) (by omega) (Qax _) rfl ?_;(case hw=>rfl))
   | (refine go_a rfl ?_;refine Qcy (F:=VC) (d:=vst0) Qax QqN (by omega) rfl _ _ _ rfl 57 _ 48 Tryz.underlying39 QvB rfl w _ _ _ (QaF own7 (Qaa _ _)) (D7.lat.trans (Qaa _ _)) (some ⟨m7.heap.size,0,none⟩) 1 1 [⟨UC,id2,tk2⟩] (Qgw Qax (show Blk (m7.alloc (.cells (VC ⟨UC,id2,tk2⟩).toArray 57)) m7.heap.size 57 ([(⟨UC,id2,tk2⟩:Vst)].flatMap VC) by simp only[Qzl,List.flatMap_nil,QyT];exact Blk.new m7 _ _) rfl) rfl rfl (by omega) (by omega) ?_;intro A8 c8 m8 hown8 hl8 hg8
      have hr8:=QaF own7 (Qaa m7 (.cells (VC ⟨UC,id2,tk2⟩).toArray 57))
      have D8:=(D7.later (Qaa m7 (.cells (VC ⟨UC,id2,tk2⟩).toArray 57))).grown hr8 (QqI (by simp)) (Qyv _) hg8
      have ownB8:=Qcx (Qay ownB7 (Qaa m7 (.cells (VC ⟨UC,id2,tk2⟩).toArray 57))) hr8 (by decide) hg8)
   | (refine QbS rfl ?_;refine Qag rfl rfl _ _ _ rfl g9 0 _ _ (D8.nth 2 rfl) rfl (by simp) rfl (by kernel_rfl) ?_;intro v9 m9 hv9 hb9 ho9;simp[go_sem]at hv9;subst hv9
      have D9:=D8.write 2 rfl ho9 hb9)
   | (refine go_l rfl ?_;refine Qam ?hw _ _ rfl gp 0 (CC UC) (fun j v hv=>(D9.nth 0 rfl).cellD (0+j) (QiS _ _ _ j v hv)) rfl _ Tryz.underlying55 rfl (by rw[Qao];exact Qic) ?_;(case hw=>rfl))
   | fail)
  have own9:=QaM hown8 (D8.nth 2 rfl) (by decide) ho9
  have ownB9:=QaM ownB8 (D8.nth 2 rfl) (by decide) ho9
  clear D6 D7 D8 own6 own7 ownB6 ownB7 ownB8 hown8 hr8 hg8 hl8 ho7 hb7 ho9 hb9 z2
  refine (Qru UC m9).mono ?_
  rintro x n1 ⟨rfl,i1⟩
  have E1:=D9.later i1
  have hdl:=UC.dl.toNat_lt
  go_wp2_with (first
   | (refine go_l rfl ?_;refine Qam ?hw _ _ rfl gp 0 (CC UC) (fun j v hv=>(E1.nth 0 rfl).cellD (0+j) (QiS _ _ _ j v hv)) rfl _ Tryz.underlying55 rfl (by rw[Qao];exact Qic) ?_;(case hw=>rfl))
   | fail)
  refine (QlB UC n1).mono ?_
  rintro x n2 ⟨rfl,i2⟩
  have E2:=E1.later i2
  have ownV:=QaF own9 (i1.trans i2)
  have ownT:=Qay ownB9 (i1.trans i2)
  clear i1 i2 E1 D9 own9 ownB9
  have zb:=(E2.nth 0 rfl).cellD 788 (Qui UC hUP _)
  by_cases hkd:UC.kd≠1
  ·have fk:(UC.kd==1)=false:=beq_eq_false_iff_ne.2 hkd
   have hR0:=hid (r3.out hkd)
   clear r3 r4 hkd
   go_wp2_with (first
    | (refine QbS rfl ?_;refine Qag rfl rfl _ _ _ rfl g9 1 _ _ (E2.nth 2 rfl) rfl (by simp) rfl (by kernel_rfl) ?_;intro v1 k1 hv1 hb1 ho1;simp[go_sem]at hv1;subst hv1
       have E3:=E2.write 2 rfl ho1 hb1
       have oV3:=QaM ownV (E2.nth 2 rfl) (by decide) ho1
       have oT3:=QaM ownT (E2.nth 2 rfl) (by decide) ho1)
    | (refine QbS rfl ?_;refine Qag rfl rfl _ _ _ rfl g9 2 _ _ (E3.nth 2 rfl) rfl (by simp) rfl (by kernel_rfl) ?_;intro v2 k2 hv2 hb2 ho2;simp[go_sem]at hv2;subst hv2
       have E4:=E3.write 2 rfl ho2 hb2
       have oV4:=QaM oV3 (E3.nth 2 rfl) (by decide) ho2
       have oT4:=QaM oT3 (E3.nth 2 rfl) (by decide) ho2)
    | (refine go_l rfl ?_;refine Qam ?hw _ _ rfl g9 0 (tr1 A8 (vs.length+1) c8 AB UB.length cB (tk2+(UC.dl.toNat:Int))) (fun j v hv=>by rw[QyE];exact (E4.nth 2 rfl).cellD j hv) rfl _ Tryz.underlying41 rfl Qbp ?_;(case hw=>rfl))
    | (refine QbS rfl ?_;refine Qae rfl rfl _ _ _ rfl (w.heap.size+1) _ _ (tr1 A8 (vs.length+1) c8 AB UB.length cB (tk2+(UC.dl.toNat:Int))) (E4.nth 4 rfl) rfl rfl 3 Qbp rfl rfl (QdX _ _ _ _ _ _ _) ?_;intro k3 hb3 ho3)
    | fail)
   have oV5:=QaM oV4 (E4.nth 4 rfl) (by decide) ho3
   have oT5:=QaM oT4 (E4.nth 4 rfl) (by decide) ho3
   have hvl:(vs++[(⟨UC,id2,tk2⟩:Vst)]).length=vs.length+1:=by simp
   have oV6:k3.ownsRow w.heap.size 57 22 (.slice A8 (vs++[(⟨UC,id2,tk2⟩:Vst)]).length c8) (vs++[(⟨UC,id2,tk2⟩:Vst)]).length ((vs++[(⟨UC,id2,tk2⟩:Vst)]).flatMap VC):=by
    rw[hvl,QAg]
    exact oV5
   exact bodyPost_ret (Qaf rfl _ _ _ _ _ _ hb3 rfl Tryz.underlying41 rfl Qbp) rfl ⟨A8,c8,AB,cB,by rw[hR0.out,hvl];rfl,by rw[hR0.out];exact Qev (d:=vst0) Qax oV6 rfl,by rw[hR0.out];exact oT5,E4.lat.only ho3 (by omega)⟩
  ·have fk:(UC.kd==1)=true:=beq_iff_eq.2 (Classical.not_not.1 hkd)
   have hR0:=hid (r4.out hkd)
   clear r3 r4 hkd zb
   have z3:n2.cell? ⟨gp,3,none⟩=some (W64 UC.nx):=(E2.nth 0 rfl).cellD 3 (QiS UC UP _ 3 (W64 UC.nx) rfl)
   have hp1:(p.map W8).length=768:=by rw[Qyo,hpl]
   go_wp2_with fail
   refine Qad [] [0,1,2,3,4,5,6] [7] (by as_aux_lemma=>kernel_rfl) (by as_aux_lemma=>kernel_rfl) (by intro _ _ d _ _ h;cases d<;>exact h) ?_
   simp only[Qaj,pick,Qym,Qyn,Qyp,Qys,Qyr]
   repeat (first|go_big_quiet_skip|(go_big_quiet_want;(refine QcJ _ _ rfl 20 (UP.map W8) (E2.drew.nth 0 rfl) rfl (Qvp _ _ _) _ Tryz.underlying100 rfl (by rw[Qyo,hUP];exact Qfj) ?_);simp only[Act.put,Qyu,Qyy,Qyx];go_big_quiet_on)|(go_big_quiet_step (fail)))
   refine wpQuiet_nil ?_
   go_wp2_with (first
    | (refine QbS rfl ?_;refine QeT rfl rfl _ _ rfl (E2.drew.nth 3 rfl) rfl rfl hUP hp1 ?_;intro k1 hb1 ho1)
    | fail)
   have E3:=E2.drew.write 3 rfl ho1 hb1
   have oV3:=QaM (QaF ownV (Qab _)) (E2.drew.nth 3 rfl) (by decide) ho1
   have hvl:(vs++[(⟨UC,id2,tk2⟩:Vst)]).length=vs.length+1:=by simp
   have E4:Bag w k1 [(g9,41,tr1 A8 (vs++[(⟨UC,id2,tk2⟩:Vst)]).length c8 none 0 0 0),(g6,100,UP.map W8),(w.heap.size+1,41,tz0),(w.heap.size,27,emC tk id B m e)]:=by
    rw[hvl]
    exact E3.drop 2
   have oV6:k1.ownsRow w.heap.size 57 22 (.slice A8 (vs++[(⟨UC,id2,tk2⟩:Vst)]).length c8) (vs++[(⟨UC,id2,tk2⟩:Vst)]).length ((vs++[(⟨UC,id2,tk2⟩:Vst)]).flatMap VC):=by
    rw[hvl,QAg]
    exact oV3
   have zn:k1.cell? ⟨g9,0,none⟩=some (.slice A8 (vs++[(⟨UC,id2,tk2⟩:Vst)]).length c8):=(E4.nth 0 rfl).cellD 0 rfl
   refine⟨?_,?_⟩
   ·have q1:(vs++[(⟨UC,id2,tk2⟩:Vst)]).length+k=16:=by rw[hvl];omega
    have q2:0≤tk2+(UC.dl.toNat:Int):=Qxm ht2
    have q3:tk2+(UC.dl.toNat:Int)≤1099511627776+((vs++[(⟨UC,id2,tk2⟩:Vst)]).length:Int)*4294967296:=by
     rw[hvl]
     exact Qxy ht3 hdl
    exact⟨k,UC.nx,_,UP,_,A8,c8,rfl,rfl,q1,hUP,q2,q3,E4,oV6,hR0⟩
   ·rw[zn,hz0.out,hvl]
    show 16-(vs.length+1)<16-vs.length
    omega
theorem QpF:Tryz.prog.built 60 []=some (AvC av0).toArray:=by kernel_rfl
theorem Qp5 (kd:UInt8) (id:UInt64) (tk:Int):Tryz.prog.built 60 [(1,W8 kd),(2,W64 id),(3,.int .i64 tk)]=some (AvC ⟨⟨prt0,kd,id,tk,Qa3⟩,.slice none 0 0⟩).toArray:=by kernel_rfl
theorem QdT:(Tryz.prog.info? 57).map (·.size)=some 22:=by kernel_rfl
theorem Qig (v:Vst):∀u∈VC v,u.oneCell'=true:=by
 intro u hu
 simp only[VC,CC,Qys,QyI,Qy8,Qy1,QyN,or_false]at hu
 rcases hu with rfl|rfl|rfl|rfl|⟨b,_,rfl⟩|rfl|rfl<;>rfl
set_option maxRecDepth 100000 in
set_option maxHeartbeats 4000000 in
theorem QlM (A B:Option Addr) (n c m e:Nat) (vs:List Vst) (b:List UInt8) (tk:Int) (w:World) (hv:RdF VC 22 vst0 w A n vs) (hn:n≤1048576) (hb:RdB w B m b) (hme:m≤e):
 Calls Tryz.prog 13 #[.agg #[.slice A n c,.slice B m e,.int .i64 tk]] w fun x w'=>∃A' c',x= .returned (.tuple #[.agg (AvC ⟨arvA vs b tk,.slice A' (arvA vs b tk).pt.da.length c'⟩).toArray,.int .i64 (arvE vs b:Nat)])∧
  OwnB w' w.heap.size A' (arvA vs b tk).pt.da.length c' (arvA vs b tk).pt.da∧Later w w':=by
 have hvl:=hv.1
 have hbl:=hb.len
 have C1:=Qbh w 41 [.slice A n c,.slice B m e,.int .i64 tk]
 have C2:=C1.add (Qaa _ (.cells az0.toArray 60)) (k:=w.heap.size+1) (by simp) (by omega) (Blk.new' _ _ az0 (by simp))
 have q0:=(C2.nth 1 rfl).cellD 0 (u:=.slice A n c) rfl
 have q1:=(C2.nth 1 rfl).cellD 1 (u:=.slice B m e) rfl
 have q2:=(C2.nth 1 rfl).cellD 2 (u:=.int .i64 tk) rfl
 have hb0:=hid QpF
 have hb1:=hid Qp5
 by_cases hn0:n=0
 ·subst hn0
  obtain⟨HE,HA⟩:=Qlq (vs:=vs) (b:=b) tk (.inl hvl)
  replace HE:=hid HE
  replace HA:=hid HA
  go_enter Tryz.func13,Tryz.ntmps13
  go_wp2_with (first
   | (refine Qah ?hw 60 _ rfl (AvC av0) (by simp only[Qyw,QyD];exact hb0.out) ?_;(case hw=>rfl))
   | (refine Qae rfl rfl _ _ _ rfl (w.heap.size+1) _ _ (AvC av0) (C2.nth 0 rfl) rfl rfl 24 Qaw (Qak _) rfl (QaX _ _ _ _) ?_;intro w5 hb5 ho5)
   | fail)
  exact bodyPost_ret (Qaf rfl _ _ _ _ _ _ hb5 rfl Tryz.underlying60 rfl (by rw[Qak];exact Qaw)) rfl ⟨none,0,by rw[HE.out,HA.out];rfl,by rw[HA.out];exact QaZ _ _ _,C2.lat.only ho5 (by omega)⟩
 obtain⟨k,rfl⟩:∃k,n=k+1:=⟨n-1,by omega⟩
 have hne:((k:Int)+1==0)=false:=beq_eq_false_iff_ne.2 (by omega)
 by_cases hm:m≠480
 ·have hm2:((m:Int) != 480)=true:=bne_iff_ne.2 (by omega)
  obtain⟨HE,HA⟩:=Qlq (vs:=vs) (b:=b) tk (.inr (by rw[hbl];exact hm))
  replace HE:=hid HE
  replace HA:=hid HA
  go_enter Tryz.func13,Tryz.ntmps13
  go_wp2_with (first
   | (refine Qah ?hw 60 _ rfl (AvC av0) (by simp only[Qyw,QyD];exact hb0.out) ?_;(case hw=>rfl))
   | (refine Qae rfl rfl _ _ _ rfl (w.heap.size+1) _ _ (AvC av0) (C2.nth 0 rfl) rfl rfl 24 Qaw (Qak _) rfl (QaX _ _ _ _) ?_;intro w5 hb5 ho5)
   | fail)
  exact bodyPost_ret (Qaf rfl _ _ _ _ _ _ hb5 rfl Tryz.underlying60 rfl (by rw[Qak];exact Qaw)) rfl ⟨none,0,by rw[HE.out,HA.out];rfl,by rw[HA.out];exact QaZ _ _ _,C2.lat.only ho5 (by omega)⟩
 obtain rfl:m=480:=Classical.not_not.1 hm
 have hS: ¬(vs.length=0∨b.length≠480):=by omega
 obtain⟨b0,o,rfl,hb00,hc⟩:=(hv.later C2.lat).at_ (k:=k) (by omega)
 have hlv:vs.getD k vst0=Qb0 vs:=by rw[Qb0,hvl];rfl
 rw[hlv]at hc
 have r4:=hid (fun h=>Qpb (vs:=vs) (b:=b) tk hS h)
 have rf:=hid (fun h1 h2 h3=>QrH (vs:=vs) (b:=b) tk hS h1 h2 h3)
 have rb:=hid (fun h1 h2=>QtR (vs:=vs) (b:=b) tk hS h1 h2)
 have rt:=hid (fun h1 h2 h3=>Qrn (vs:=vs) (b:=b) tk hS h1 h2 h3)
 have rg:=hid (fun h1 h2 h3=>QrP (vs:=vs) (b:=b) tk hS h1 h2 h3)
 have hPa:=hid (fun w h=>QmF B e b w h hme)
 have hPd:Hid (parE b≠0→parP b=prt0):=hid (fun h=>by rw[parP,if_neg h])
 generalize arvE vs b=E at *
 generalize arvA vs b tk=R at *
 generalize Qb0 vs=v at *
 generalize parE b=PE at *
 generalize parP b=P at *
 clear hlv hS hm hn0 hvl
 have hsz:((w.alloc (.cells [.slice (some ⟨b0,o,none⟩) (k+1) c,.slice B 480 e,.int .i64 tk].toArray 41)).alloc (.cells az0.toArray 60)).heap.size=w.heap.size+2:=by simp
 by_cases h4:v.cm.kd=4
 ·obtain⟨HE,HA⟩:=r4.out h4
  replace HE:=hid HE
  replace HA:=hid HA
  have f4:(v.cm.kd==4)=true:=by rw[h4];rfl
  clear r4 rf rb rt rg hPa hPd h4
  go_enter Tryz.func13,Tryz.ntmps13
  go_wp2_with (first
   | (refine Qam ?hw _ _ rfl b0 (o+k*22) (VC v) hc rfl _ Tryz.underlying57 rfl (by rw[Qax];exact QdT) ?_;(case hw=>rfl))
   | (refine Qae rfl rfl _ _ _ rfl (w.heap.size+2) _ _ (VC v) (Blk.new' _ _ (VC vst0) hsz) rfl rfl 22 QdT (Qax _) (Qax vst0) (Qig _) ?_;intro w3 hb3 ho3
      have l3:=Later.only (Qaa _ _) ho3 (QAp hsz)
      have C3:=C2.fresh l3 (QAp hsz) hb3
      obtain⟨x0,x20,x4⟩:=Qck hb3
      have y2:=(C3.nth 2 rfl).cellD 2 (u:=.int .i64 tk) rfl)
   | (refine Qah ?hw 60 _ rfl (AvC ⟨⟨prt0,v.cm.kd,v.id,tk,Qa3⟩,.slice none 0 0⟩) (by simp only[Qyw,QyJ,QyD];exact hb1.out _ _ _) ?_;(case hw=>rfl))
   | (refine Qae rfl rfl _ _ _ rfl w3.heap.size _ _ (AvC ⟨⟨prt0,v.cm.kd,v.id,tk,Qa3⟩,.slice none 0 0⟩) (Blk.new w3 _ (AvC av0)) rfl rfl 24 Qaw (Qak _) (Qak av0) (QaX _ _ _ _) ?_;intro w4 hb4 ho4
      have l4:=(Qaa w3 _).only ho4 (Qyv _)
      have C4:=C3.fresh l4 (Qyv _) hb4
      clear x0 x20 x4 y2
      obtain⟨x0,x20,x4⟩:=Qck (C4.nth 1 rfl))
   | (refine Qam ?hw _ _ rfl (w.heap.size+2) 4 (v.cm.ma.val.map W8) x4 rfl _ Tryz.underlying51 rfl (by rw[Qyo,v.cm.ma.2];exact Qpa) ?_;(case hw=>rfl))
   | (refine Qal rfl rfl _ _ _ rfl w3.heap.size 8 _ _ (v.cm.ma.val.map W8) (C4.nth 0 rfl) rfl rfl (by rw[Qyo,v.cm.ma.2];exact Qpa) (by rw[Qak,Qyo,v.cm.ma.2];omega) (QaC _) ?_;intro w5 hb5 ho5
      rw[Qnu]at hb5
      have C5:=C4.write 0 rfl ho5 hb5)
   | (refine Qam ?hw _ _ rfl w3.heap.size 0 (AvC ⟨⟨prt0,v.cm.kd,v.id,tk,v.cm.ma⟩,.slice none 0 0⟩) (fun j v hv=>by rw[QyE];exact hb5.cellD j hv) rfl _ Tryz.underlying60 rfl (by rw[Qak];exact Qaw) ?_;(case hw=>rfl))
   | (refine Qae rfl rfl _ _ _ rfl (w.heap.size+1) _ _ (AvC ⟨⟨prt0,v.cm.kd,v.id,tk,v.cm.ma⟩,.slice none 0 0⟩) (C5.nth 2 rfl) rfl rfl 24 Qaw (Qak _) rfl (QaX _ _ _ _) ?_;intro w6 hb6 ho6)
   | fail)
  exact bodyPost_ret (Qaf rfl _ _ _ _ _ _ hb6 rfl Tryz.underlying60 rfl (by rw[Qak];exact Qaw)) rfl ⟨none,0,by rw[HE.out,HA.out];rfl,by rw[HA.out];exact QaZ _ _ _,C5.lat.only ho6 (by omega)⟩
 have f4:(v.cm.kd==4)=false:=beq_eq_false_iff_ne.2 h4
 clear r4
 by_cases h23: ¬(v.cm.kd=2∨v.cm.kd=3)
 ·have h2:v.cm.kd≠2:=fun h=>h23 (.inl h)
  have h3:v.cm.kd≠3:=fun h=>h23 (.inr h)
  obtain⟨HE,HA⟩:=rf.out h4 h2 h3
  replace HE:=hid HE
  replace HA:=hid HA
  have f2:(v.cm.kd==2)=false:=beq_eq_false_iff_ne.2 h2
  have f3:(v.cm.kd==3)=false:=beq_eq_false_iff_ne.2 h3
  clear rf rb rt rg hPa hPd h4 h23 h2 h3
  go_enter Tryz.func13,Tryz.ntmps13
  go_wp2_with (first
   | (refine Qam ?hw _ _ rfl b0 (o+k*22) (VC v) hc rfl _ Tryz.underlying57 rfl (by rw[Qax];exact QdT) ?_;(case hw=>rfl))
   | (refine Qae rfl rfl _ _ _ rfl (w.heap.size+2) _ _ (VC v) (Blk.new' _ _ (VC vst0) hsz) rfl rfl 22 QdT (Qax _) (Qax vst0) (Qig _) ?_;intro w3 hb3 ho3
      have l3:=Later.only (Qaa _ _) ho3 (QAp hsz)
      have C3:=C2.fresh l3 (QAp hsz) hb3
      obtain⟨x0,x20,x4⟩:=Qck hb3
      have y2:=(C3.nth 2 rfl).cellD 2 (u:=.int .i64 tk) rfl)
   | (refine Qah ?hw 60 _ rfl (AvC ⟨⟨prt0,v.cm.kd,v.id,tk,Qa3⟩,.slice none 0 0⟩) (by simp only[Qyw,QyJ,QyD];exact hb1.out _ _ _) ?_;(case hw=>rfl))
   | (refine Qae rfl rfl _ _ _ rfl w3.heap.size _ _ (AvC ⟨⟨prt0,v.cm.kd,v.id,tk,Qa3⟩,.slice none 0 0⟩) (Blk.new w3 _ (AvC av0)) rfl rfl 24 Qaw (Qak _) (Qak av0) (QaX _ _ _ _) ?_;intro w4 hb4 ho4
      have l4:=(Qaa w3 _).only ho4 (Qyv _)
      have C4:=C3.fresh l4 (Qyv _) hb4
      clear x0 x20 x4 y2
      obtain⟨x0,x20,x4⟩:=Qck (C4.nth 1 rfl)
      have y1:=(C4.nth 3 rfl).cellD 1 (u:=.slice B 480 e) rfl)
   | (refine Qah ?hw 60 _ rfl (AvC av0) (by simp only[Qyw,QyD];exact hb0.out) ?_;(case hw=>rfl))
   | (refine Qae rfl rfl _ _ _ rfl (w.heap.size+1) _ _ (AvC av0) (C4.nth 2 rfl) rfl rfl 24 Qaw (Qak _) rfl (QaX _ _ _ _) ?_;intro w9 hb9 ho9)
   | fail)
  exact bodyPost_ret (Qaf rfl _ _ _ _ _ _ hb9 rfl Tryz.underlying60 rfl (by rw[Qak];exact Qaw)) rfl ⟨none,0,by rw[HE.out,HA.out];rfl,by rw[HA.out];exact QaZ _ _ _,C4.lat.only ho9 (by omega)⟩
 replace h23:=Classical.not_not.1 h23
 clear rf h4
 obtain⟨M,hM,hMM,hf⟩:∃M:UInt8,(if v.cm.kd=3 then 2 else 1)=M∧((M=1∧(v.cm.kd==2)=true)∨(M=2∧(v.cm.kd==2)=false∧(v.cm.kd==3)=true))∧True:=by
  rcases h23 with h|h
  ·exact⟨1,by rw[h];decide,.inl ⟨rfl,by rw[h];rfl⟩,trivial⟩
  ·exact⟨2,by rw[h];decide,.inr ⟨rfl,by rw[h];rfl,by rw[h];rfl⟩,trivial⟩
 replace rb:=hid (rb.out h23)
 replace rt:=hid (rt.out h23)
 replace rg:=hid (rg.out h23)
 rw[hM]at rt rg
 clear hM h23 hf
 rcases hMM with ⟨rfl,f2⟩|⟨rfl,f2,f3⟩
 ·go_enter Tryz.func13,Tryz.ntmps13
  go_wp2_with (first
   | (refine Qam ?hw _ _ rfl b0 (o+k*22) (VC v) hc rfl _ Tryz.underlying57 rfl (by rw[Qax];exact QdT) ?_;(case hw=>rfl))
   | (refine Qae rfl rfl _ _ _ rfl (w.heap.size+2) _ _ (VC v) (Blk.new' _ _ (VC vst0) hsz) rfl rfl 22 QdT (Qax _) (Qax vst0) (Qig _) ?_;intro w3 hb3 ho3
      have l3:=Later.only (Qaa _ _) ho3 (QAp hsz)
      have C3:=C2.fresh l3 (QAp hsz) hb3
      obtain⟨x0,x20,x4⟩:=Qck hb3
      have y2:=(C3.nth 2 rfl).cellD 2 (u:=.int .i64 tk) rfl)
   | (refine Qah ?hw 60 _ rfl (AvC ⟨⟨prt0,v.cm.kd,v.id,tk,Qa3⟩,.slice none 0 0⟩) (by simp only[Qyw,QyJ,QyD];exact hb1.out _ _ _) ?_;(case hw=>rfl))
   | (refine Qae rfl rfl _ _ _ rfl w3.heap.size _ _ (AvC ⟨⟨prt0,v.cm.kd,v.id,tk,Qa3⟩,.slice none 0 0⟩) (Blk.new w3 _ (AvC av0)) rfl rfl 24 Qaw (Qak _) (Qak av0) (QaX _ _ _ _) ?_;intro w4 hb4 ho4
      have l4:=(Qaa w3 _).only ho4 (Qyv _)
      have C4:=C3.fresh l4 (Qyv _) hb4
      clear x0 x20 x4 y2
      obtain⟨x0,x20,x4⟩:=Qck (C4.nth 1 rfl)
      have y1:=(C4.nth 3 rfl).cellD 1 (u:=.slice B 480 e) rfl)
   | fail)
  refine (hPa.out w4 (hb.later C4.lat)).mono ?_
  rintro x5 w5 ⟨A5,c5,rfl,hown5,l5⟩
  clear x0 x20 x4 y1
  have C5:=C4.later l5
  by_cases hpe:PE=0
  case neg=>
   obtain⟨HE,HA⟩:=rb.out hpe
   replace HE:=hid HE
   replace HA:=hid HA
   have hp2:((PE:Int) != 0)=true:=bne_iff_ne.2 (by omega)
   clear rb rt rg hPa hpe
   go_wp2_with (first
   | (refine Qbm rfl rfl _ _ rfl (Blk.new w5 _ pz0) rfl rfl rfl rfl ?_;intro w6 hb6 ho6
      have l6:=(Qaa w5 _).only ho6 (Qyv _)
      have C6:=C5.fresh l6 (Qyv _) hb6)
   | (refine Qah ?hw 60 _ rfl (AvC av0) (by simp only[Qyw,QyD];exact hb0.out) ?_;(case hw=>rfl))
   | (refine Qae rfl rfl _ _ _ rfl (w.heap.size+1) _ _ (AvC av0) (C6.nth 3 rfl) rfl rfl 24 Qaw (Qak _) rfl (QaX _ _ _ _) ?_;intro w9 hb9 ho9)
   | fail)
   exact bodyPost_ret (Qaf rfl _ _ _ _ _ _ hb9 rfl Tryz.underlying60 rfl (by rw[Qak];exact Qaw)) rfl ⟨none,0,by rw[HE.out,HA.out];rfl,by rw[HA.out];exact QaZ _ _ _,C6.lat.only ho9 (by omega)⟩
  replace rt:=hid (rt.out hpe)
  replace rg:=hid (rg.out hpe)
  subst hpe
  have hw34:=(C4.nth 0 rfl).lt
  have hw23:=(C3.nth 0 rfl).lt
  by_cases hk:P.kd=1
  case neg=>
   obtain⟨HE,HA⟩:=rt.out hk
   replace HE:=hid HE
   replace HA:=hid HA
   have fk:(P.kd != 1)=true:=bne_iff_ne.2 hk
   clear rb rt rg hPa hk
   go_wp2_with (first
   | (refine Qbm rfl rfl _ _ rfl (Blk.new w5 _ pz0) rfl rfl rfl rfl ?_;intro w6 hb6 ho6
      have l6:=(Qaa w5 _).only ho6 (Qyv _)
      have C6:=C5.fresh l6 (Qyv _) hb6
      have z0:=(C6.nth 0 rfl).cellD 0 (u:=W8 P.kd) rfl)
   | (refine Qah ?hw 60 _ rfl (AvC av0) (by simp only[Qyw,QyD];exact hb0.out) ?_;(case hw=>rfl))
   | (refine Qae rfl rfl _ _ _ rfl (w.heap.size+1) _ _ (AvC av0) (C6.nth 3 rfl) rfl rfl 24 Qaw (Qak _) rfl (QaX _ _ _ _) ?_;intro w9 hb9 ho9)
   | fail)
   exact bodyPost_ret (Qaf rfl _ _ _ _ _ _ hb9 rfl Tryz.underlying60 rfl (by rw[Qak];exact Qaw)) rfl ⟨none,0,by rw[HE.out,HA.out];rfl,by rw[HA.out];exact QaZ _ _ _,C6.lat.only ho9 (by omega)⟩
  obtain⟨HE,HA⟩:=rg.out hk
  replace HE:=hid HE
  replace HA:=hid HA
  have fk:(P.kd != 1)=false:=bne_eq_false_iff_eq.2 hk
  clear rb rt rg hPa hk
  go_wp2_with (first
   | (refine Qbm rfl rfl _ _ rfl (Blk.new w5 _ pz0) rfl rfl rfl rfl ?_;intro w6 hb6 ho6
      have l6:=(Qaa w5 _).only ho6 (Qyv _)
      have C6:=C5.fresh l6 (Qyv _) hb6
      have z0:=(C6.nth 0 rfl).cellD 0 (u:=W8 P.kd) rfl)
   | (refine QdI ?hw _ rfl (C6.nth 0 rfl) rfl ?_;(case hw=>rfl))
   | (refine Qal rfl rfl _ _ _ rfl w3.heap.size 0 _ _ (PaC P (.slice A5 P.da.length c5)) (C6.nth 1 rfl) rfl rfl (by rw[QaD];exact Qdf) (by rw[Qak,QaD];omega) (Qgp _ rfl) ?_;intro w7 hb7 ho7
      rw[QlO]at hb7
      have C7:=C6.write 1 rfl ho7 hb7)
   | (refine Qam ?hw _ _ rfl w3.heap.size 0 (AvC ⟨⟨P,v.cm.kd,v.id,tk,Qa3⟩,.slice A5 P.da.length c5⟩) (fun j v hv=>by rw[QyE];exact hb7.cellD j hv) rfl _ Tryz.underlying60 rfl (by rw[Qak];exact Qaw) ?_;(case hw=>rfl))
   | (refine Qae rfl rfl _ _ _ rfl (w.heap.size+1) _ _ (AvC ⟨⟨P,v.cm.kd,v.id,tk,Qa3⟩,.slice A5 P.da.length c5⟩) (C7.nth 3 rfl) rfl rfl 24 Qaw (Qak _) rfl (QaX _ _ _ _) ?_;intro w9 hb9 ho9)
   | fail)
  have o6:=Qay hown5 l6
  have o7:=QeX o6 ho7 (fun k hk=>.inl (by simp only[Option.some.injEq]at hk;omega))
  have o9:=QeX o7 ho9 (fun k hk=>.inl (by simp only[Option.some.injEq]at hk;omega))
  exact bodyPost_ret (Qaf rfl _ _ _ _ _ _ hb9 rfl Tryz.underlying60 rfl (by rw[Qak];exact Qaw)) rfl ⟨A5,c5,by rw[HE.out,HA.out];rfl,by rw[HA.out];exact QbR o9 C4.lat.size,C7.lat.only ho9 (by omega)⟩
 ·go_enter Tryz.func13,Tryz.ntmps13
  go_wp2_with (first
   | (refine Qam ?hw _ _ rfl b0 (o+k*22) (VC v) hc rfl _ Tryz.underlying57 rfl (by rw[Qax];exact QdT) ?_;(case hw=>rfl))
   | (refine Qae rfl rfl _ _ _ rfl (w.heap.size+2) _ _ (VC v) (Blk.new' _ _ (VC vst0) hsz) rfl rfl 22 QdT (Qax _) (Qax vst0) (Qig _) ?_;intro w3 hb3 ho3
      have l3:=Later.only (Qaa _ _) ho3 (QAp hsz)
      have C3:=C2.fresh l3 (QAp hsz) hb3
      obtain⟨x0,x20,x4⟩:=Qck hb3
      have y2:=(C3.nth 2 rfl).cellD 2 (u:=.int .i64 tk) rfl)
   | (refine Qah ?hw 60 _ rfl (AvC ⟨⟨prt0,v.cm.kd,v.id,tk,Qa3⟩,.slice none 0 0⟩) (by simp only[Qyw,QyJ,QyD];exact hb1.out _ _ _) ?_;(case hw=>rfl))
   | (refine Qae rfl rfl _ _ _ rfl w3.heap.size _ _ (AvC ⟨⟨prt0,v.cm.kd,v.id,tk,Qa3⟩,.slice none 0 0⟩) (Blk.new w3 _ (AvC av0)) rfl rfl 24 Qaw (Qak _) (Qak av0) (QaX _ _ _ _) ?_;intro w4 hb4 ho4
      have l4:=(Qaa w3 _).only ho4 (Qyv _)
      have C4:=C3.fresh l4 (Qyv _) hb4
      clear x0 x20 x4 y2
      obtain⟨x0,x20,x4⟩:=Qck (C4.nth 1 rfl)
      have y1:=(C4.nth 3 rfl).cellD 1 (u:=.slice B 480 e) rfl)
   | fail)
  refine (hPa.out w4 (hb.later C4.lat)).mono ?_
  rintro x5 w5 ⟨A5,c5,rfl,hown5,l5⟩
  clear x0 x20 x4 y1
  have C5:=C4.later l5
  by_cases hpe:PE=0
  case neg=>
   obtain⟨HE,HA⟩:=rb.out hpe
   replace HE:=hid HE
   replace HA:=hid HA
   have hp2:((PE:Int) != 0)=true:=bne_iff_ne.2 (by omega)
   clear rb rt rg hPa hpe
   go_wp2_with (first
   | (refine Qbm rfl rfl _ _ rfl (Blk.new w5 _ pz0) rfl rfl rfl rfl ?_;intro w6 hb6 ho6
      have l6:=(Qaa w5 _).only ho6 (Qyv _)
      have C6:=C5.fresh l6 (Qyv _) hb6)
   | (refine Qah ?hw 60 _ rfl (AvC av0) (by simp only[Qyw,QyD];exact hb0.out) ?_;(case hw=>rfl))
   | (refine Qae rfl rfl _ _ _ rfl (w.heap.size+1) _ _ (AvC av0) (C6.nth 3 rfl) rfl rfl 24 Qaw (Qak _) rfl (QaX _ _ _ _) ?_;intro w9 hb9 ho9)
   | fail)
   exact bodyPost_ret (Qaf rfl _ _ _ _ _ _ hb9 rfl Tryz.underlying60 rfl (by rw[Qak];exact Qaw)) rfl ⟨none,0,by rw[HE.out,HA.out];rfl,by rw[HA.out];exact QaZ _ _ _,C6.lat.only ho9 (by omega)⟩
  replace rt:=hid (rt.out hpe)
  replace rg:=hid (rg.out hpe)
  subst hpe
  have hw34:=(C4.nth 0 rfl).lt
  have hw23:=(C3.nth 0 rfl).lt
  by_cases hk:P.kd=2
  case neg=>
   obtain⟨HE,HA⟩:=rt.out hk
   replace HE:=hid HE
   replace HA:=hid HA
   have fk:(P.kd != 2)=true:=bne_iff_ne.2 hk
   clear rb rt rg hPa hk
   go_wp2_with (first
   | (refine Qbm rfl rfl _ _ rfl (Blk.new w5 _ pz0) rfl rfl rfl rfl ?_;intro w6 hb6 ho6
      have l6:=(Qaa w5 _).only ho6 (Qyv _)
      have C6:=C5.fresh l6 (Qyv _) hb6
      have z0:=(C6.nth 0 rfl).cellD 0 (u:=W8 P.kd) rfl)
   | (refine Qah ?hw 60 _ rfl (AvC av0) (by simp only[Qyw,QyD];exact hb0.out) ?_;(case hw=>rfl))
   | (refine Qae rfl rfl _ _ _ rfl (w.heap.size+1) _ _ (AvC av0) (C6.nth 3 rfl) rfl rfl 24 Qaw (Qak _) rfl (QaX _ _ _ _) ?_;intro w9 hb9 ho9)
   | fail)
   exact bodyPost_ret (Qaf rfl _ _ _ _ _ _ hb9 rfl Tryz.underlying60 rfl (by rw[Qak];exact Qaw)) rfl ⟨none,0,by rw[HE.out,HA.out];rfl,by rw[HA.out];exact QaZ _ _ _,C6.lat.only ho9 (by omega)⟩
  obtain⟨HE,HA⟩:=rg.out hk
  replace HE:=hid HE
  replace HA:=hid HA
  have fk:(P.kd != 2)=false:=bne_eq_false_iff_eq.2 hk
  clear rb rt rg hPa hk
  go_wp2_with (first
   | (refine Qbm rfl rfl _ _ rfl (Blk.new w5 _ pz0) rfl rfl rfl rfl ?_;intro w6 hb6 ho6
      have l6:=(Qaa w5 _).only ho6 (Qyv _)
      have C6:=C5.fresh l6 (Qyv _) hb6
      have z0:=(C6.nth 0 rfl).cellD 0 (u:=W8 P.kd) rfl)
   | (refine QdI ?hw _ rfl (C6.nth 0 rfl) rfl ?_;(case hw=>rfl))
   | (refine Qal rfl rfl _ _ _ rfl w3.heap.size 0 _ _ (PaC P (.slice A5 P.da.length c5)) (C6.nth 1 rfl) rfl rfl (by rw[QaD];exact Qdf) (by rw[Qak,QaD];omega) (Qgp _ rfl) ?_;intro w7 hb7 ho7
      rw[QlO]at hb7
      have C7:=C6.write 1 rfl ho7 hb7)
   | (refine Qam ?hw _ _ rfl w3.heap.size 0 (AvC ⟨⟨P,v.cm.kd,v.id,tk,Qa3⟩,.slice A5 P.da.length c5⟩) (fun j v hv=>by rw[QyE];exact hb7.cellD j hv) rfl _ Tryz.underlying60 rfl (by rw[Qak];exact Qaw) ?_;(case hw=>rfl))
   | (refine Qae rfl rfl _ _ _ rfl (w.heap.size+1) _ _ (AvC ⟨⟨P,v.cm.kd,v.id,tk,Qa3⟩,.slice A5 P.da.length c5⟩) (C7.nth 3 rfl) rfl rfl 24 Qaw (Qak _) rfl (QaX _ _ _ _) ?_;intro w9 hb9 ho9)
   | fail)
  have o6:=Qay hown5 l6
  have o7:=QeX o6 ho7 (fun k hk=>.inl (by simp only[Option.some.injEq]at hk;omega))
  have o9:=QeX o7 ho9 (fun k hk=>.inl (by simp only[Option.some.injEq]at hk;omega))
  exact bodyPost_ret (Qaf rfl _ _ _ _ _ _ hb9 rfl Tryz.underlying60 rfl (by rw[Qak];exact Qaw)) rfl ⟨A5,c5,by rw[HE.out,HA.out];rfl,by rw[HA.out];exact QbR o9 C4.lat.size,C7.lat.only ho9 (by omega)⟩
def dlv1 (xs:List Nod) (e:Emt):List Arr:=
 if (Qa7 xs e.tk e.id e.bs).er=0∧arvE (Qa7 xs e.tk e.id e.bs).vs (Qa7 xs e.tk e.id e.bs).bd=0 then [arvA (Qa7 xs e.tk e.id e.bs).vs (Qa7 xs e.tk e.id e.bs).bd (Qa7 xs e.tk e.id e.bs).tk] else []
def dlvU (xs:List Nod) (es:List Emt):List Arr:=es.flatMap (dlv1 xs)
def dlvS (xs:List Nod) (es:List Emt):List Arr:=srt Arr.tk arr0 (dlvU xs es) ((dlvU xs es).length-1)
theorem Qpc (xs:List Nod) (es:List Emt) (k:Nat) (h:k<es.length):dlvU xs (es.take (k+1))=dlvU xs (es.take k)++dlv1 xs (es.getD k emt0):=by
 rw[dlvU,dlvU,QyR h,QAg,Qyt,Qyq h]
 simp
section
variable {α β:Type} {f:α→β} {kb:β→Int} {d:α}
theorem Qs1 (l:List α) (j:Nat):(swp d l j).map f=swp (f d) (l.map f) j:=by
 have g:∀i,f (l.getD i d)=(l.map f).getD i (f d):=fun i=>by
  rw[Qyt,Qyt,QyF]
  cases l[i]?<;>rfl
 rw[swp,swp,QAu,QAu,g,g]
theorem Qlr:∀(j:Nat) (l:List α),(sink (fun x=>kb (f x)) d l j).map f=sink kb (f d) (l.map f) j
 | 0,_=>rfl
 | j+1,l=>by
   have g:∀i,f (l.getD i d)=(l.map f).getD i (f d):=fun i=>by
    rw[Qyt,Qyt,QyF]
    cases l[i]?<;>rfl
   rw[sink,sink,g,g]
   split
   ·rw[Qlr j,Qs1]
   ·rfl
theorem QoN (l:List α):∀k:Nat,(srt (fun x=>kb (f x)) d l k).map f=srt kb (f d) (l.map f) k
 | 0=>rfl
 | k+1=>by rw[srt,srt,Qlr,QoN l k]
end
theorem QtD (gs:List Arw) (k:Nat):(srt awK aw0 gs k).map (·.ar)=srt Arr.tk arr0 (gs.map (·.ar)) k:=QoN (f:=fun x:Arw=>x.ar) (kb:=Arr.tk) (d:=aw0) gs k
def awB (g:Arw):Option Nat:=(Value.slice g.va g.vn g.vc).ownBlock
theorem Qq2 {gs:List Arw} {g:Arw} {wr w5:World} {base k:Nat} {bs:List UInt8} (h:(gs.filterMap awB).Nodup) (ho:∀g∈gs,AwOk wr base g) (hs:wr.heap.size≤k) (hn:OwnB w5 k g.va g.vn g.vc bs):((gs++[g]).filterMap awB).Nodup:=by
 rw[List.filterMap_append,List.nodup_append]
 refine⟨h,?_,fun a ha b hb=>?_⟩
 ·cases e:awB g<;>simp[e]
 ·obtain⟨x,hx,hxa⟩:=QzR.1 ha
  obtain⟨y,hy,hyb⟩:=QzR.1 hb
  obtain rfl:=QzI.1 hy
  have h1:=(World.ownsRow.lt (ho x hx) a hxa).2
  have h2:=(World.ownsRow.lt hn b hyb).1
  omega
theorem Qf9:(Tryz.prog.info? 27).map (·.size)=some 3:=by kernel_rfl
set_option maxRecDepth 100000 in
set_option maxHeartbeats 4000000 in
theorem QkE (A D:Option Addr) (n c m e:Nat) (xs:List Nod) (es:List Emt) (w:World) (hx:RdN w A n xs) (hn:n≤1048576) (hs:∀x∈xs,x.nm.size≤140737488355328) (hes:RdF EmC 3 emt0 w D m es) (hok:∀y∈es,EmOk w y) (hm:m<20):
 Calls Tryz.prog 15 #[.slice A n c,.slice D m e] w fun x w'=>∃(A':Option Addr) (c':Nat) (gs:List Arw),x= .returned (.slice A' gs.length c')∧w'.ownsRow w.heap.size 60 24 (.slice A' gs.length c') gs.length (gs.flatMap ArC)∧
  gs.length≤m∧gs.map (·.ar)=dlvS xs es∧(∀ g∈gs,AwOk w' w.heap.size g)∧(gs.filterMap awB).Nodup∧Later w w':=by
 have hel:=hes.1
 go_enter Tryz.func15,Tryz.ntmps15
 go_wp2_with fail
 go_loopw [5,13] (fun v5 i wr=>∃(k:Nat) (gs:List Arw) (A':Option Addr) (c':Nat),k≤m∧i= .int .i64 k∧v5= .slice A' gs.length c'∧gs.length≤k∧Later w wr∧wr.ownsRow w.heap.size 60 24 (.slice A' gs.length c') gs.length (gs.flatMap ArC)∧Hid (gs.map (·.ar)=dlvU xs (es.take k))∧(∀ g∈gs,AwOk wr w.heap.size g)∧Hid (gs.length=0→A'=none)∧(gs.filterMap awB).Nodup) (fun _ i _=>m-(intOf i).toNat)
 case atStart=>exact⟨0,[],none,0,by omega,rfl,rfl,Qyv _,Later.refl _,⟨by simp,.inl ⟨rfl,rfl⟩⟩,hid rfl,by simp,hid (fun _=>rfl),by simp⟩
 case round=>
  obtain⟨k,gs,A2,c2,hk,rfl,rfl,hgl,L,hown,hgs,hgo,hnl,hnd⟩:=hrel
  by_cases hlt:k<m
  ·obtain⟨b,o,rfl,hb,hc⟩:=(hes.later L).at_ hlt
   have hmem:es.getD k emt0∈es:=by
    rw[Qyt,Qyq (by omega)]
    exact Qzk _
   have hst:=hid (Qpc xs es k (by omega))
   have hyk:=(hok _ hmem).later L
   generalize es.getD k emt0=y at *
   obtain⟨tk,id,bs,B,en,ec⟩:=y
   obtain⟨hec,hrd⟩:=hyk
   simp only at hec hrd
   have hd1:dlv1 xs ⟨tk,id,bs,B,en,ec⟩=if (Qa7 xs tk id bs).er=0∧arvE (Qa7 xs tk id bs).vs (Qa7 xs tk id bs).bd=0 then [arvA (Qa7 xs tk id bs).vs (Qa7 xs tk id bs).bd (Qa7 xs tk id bs).tk] else []:=rfl
   have hCa:=hid (fun w h1 h2=>QhV A B n c en ec xs tk id bs w h1 hn hs h2 hec)
   have hvl:(Qa7 xs tk id bs).vs.length≤16:=QhA xs tk id bs
   generalize Qa7 xs tk id bs=R at *
   generalize dlv1 xs ⟨tk,id,bs,B,en,ec⟩=D1 at *
   clear hmem
   go_wp2_with (first
    | (refine go_l rfl ?_;refine Qam ?hw _ _ rfl b (o+k*3) (emC tk id B en ec) hc rfl _ Tryz.underlying27 rfl Qf9 ?_;(case hw=>rfl))
    | (refine QbS rfl ?_;refine Qae rfl rfl _ _ _ rfl wr.heap.size _ _ (emC tk id B en ec) (Blk.new wr _ (EmC emt0)) rfl rfl 3 Qf9 rfl rfl (Qoo ⟨tk,id,bs,B,en,ec⟩) ?_;intro w2 hb2 ho2
       have l2:Later wr w2:=(Qaa wr _).only ho2 (Qyv _))
    | (refine go_l rfl ?_;refine Qam ?hw _ _ rfl wr.heap.size 0 (emC tk id B en ec) (fun j v hv=>by rw[QyE];exact hb2.cellD j hv) rfl _ Tryz.underlying27 rfl Qf9 ?_;(case hw=>rfl))
    | fail)
   refine (hCa.out w2 (hx.later (L.trans l2)) (hrd.later l2)).mono ?_
   rintro x w3 ⟨A3,c3,B3,d3,rfl,rv,ob,l3⟩
   have rb:=OwnB.rd ob
   have hbd:=OwnB.cap ob
   clear hCa hc hb
   by_cases hE:R.er=0
   ·have fE:((R.er:Int) != 0)=false:=by rw[hE];rfl
    have hA:=hid (fun w h1 h2=>QlM A3 B3 R.vs.length c3 R.bd.length d3 R.vs R.bd R.tk w h1 (by omega) h2 hbd)
    have hd2:arvE R.vs R.bd=0→D1=[arvA R.vs R.bd R.tk]:=fun h=>by rw[hd1,if_pos ⟨hE,h⟩]
    have hd3:arvE R.vs R.bd≠0→D1=[]:=fun h=>by rw[hd1,if_neg (fun h'=>h h'.2)]
    clear hd1 hE
    replace hd2:=hid hd2
    replace hd3:=hid hd3
    generalize arvE R.vs R.bd=AE at *
    generalize arvA R.vs R.bd R.tk=AA at *
    go_wp2_with (first
     | (refine QbS rfl ?_;refine Qae rfl rfl _ _ _ rfl w3.heap.size _ _ (tr1 A3 R.vs.length c3 B3 R.bd.length d3 R.tk) (Blk.new w3 _ tz0) rfl rfl 3 Qbp rfl rfl (QdX _ _ _ _ _ _ _) ?_;intro w4 hb4 ho4
        have l4:Later w3 w4:=(Qaa w3 _).only ho4 (Qyv _))
     | (refine go_l rfl ?_;refine Qam ?hw _ _ rfl w3.heap.size 0 (tr1 A3 R.vs.length c3 B3 R.bd.length d3 R.tk) (fun j v hv=>by rw[QyE];exact hb4.cellD j hv) rfl _ Tryz.underlying41 rfl Qbp ?_;(case hw=>rfl))
     | fail)
    refine (hA.out w4 (rv.later l4) (rb.later l4)).mono ?_
    rintro x w5 ⟨A5,c5,rfl,own5,l5⟩
    have L5:=((l2.trans l3).trans l4).trans l5
    by_cases hAE:AE=0
    ·subst hAE
     have hD:=hid (hd2.out rfl)
     clear hd2 hd3 hA
     go_wp2_with (first
      | (refine QbS rfl ?_;refine Qae rfl rfl _ _ _ rfl w5.heap.size _ _ (AvC ⟨AA,.slice A5 AA.pt.da.length c5⟩) (Blk.new w5 _ (AvC av0)) rfl rfl 24 Qaw (Qak _) (Qak av0) (QaX _ _ _ _) ?_;intro w6 hb6 ho6
         have l6:Later w5 w6:=(Qaa w5 _).only ho6 (Qyv _))
      | (refine go_l rfl ?_;refine Qam ?hw _ _ rfl w5.heap.size 0 (AvC ⟨AA,.slice A5 AA.pt.da.length c5⟩) (fun j v hv=>by rw[QyE];exact hb6.cellD j hv) rfl _ Tryz.underlying60 rfl (by rw[Qak];exact Qaw) ?_;(case hw=>rfl))
      | (refine go_s rfl ?_;refine Qdm ?hw 66 _ rfl 60 24 _ (AvC ⟨AA,.slice A5 AA.pt.da.length c5⟩) Tryz.underlying66 QnO (by omega) (by omega) (Qak _) rfl ?_;(case hw=>rfl))
      | (refine go_a rfl ?_;refine Qcy (F:=ArC) (d:=aw0) Qbb Qim (by omega) rfl _ _ _ rfl 60 _ 96 Tryz.underlying66 Qvi rfl w _ _ _ (QaF hown ((L5.trans l6).trans (Qaa _ _))) (L.trans ((L5.trans l6).trans (Qaa _ _))) (some ⟨w6.heap.size,0,none⟩) 1 1 [⟨AA,A5,AA.pt.da.length,c5⟩] (Qgw Qbb (show Blk (w6.alloc (.cells (ArC ⟨AA,A5,AA.pt.da.length,c5⟩).toArray 60)) w6.heap.size 60 ([(⟨AA,A5,AA.pt.da.length,c5⟩:Arw)].flatMap ArC) by simp only[Qzl,List.flatMap_nil,QyT];exact Blk.new w6 _ _) rfl) rfl rfl (by omega) (by omega) ?_;intro A8 c8 w8 hown8 hl8 hg8)
      | fail)
     have L6:=L5.trans l6
     have hgo8:∀g∈gs++[⟨AA,A5,AA.pt.da.length,c5⟩],AwOk w8 w.heap.size g:=by
      intro g hg
      have hr:=QaF hown (L6.trans (Qaa w6 (.cells (ArC ⟨AA,A5,AA.pt.da.length,c5⟩).toArray 60)))
      rcases Qy8.1 hg with hg|hg
      ·exact Qcx (Qay (hgo g hg) (L6.trans (Qaa _ _))) hr (by decide) hg8
      ·obtain rfl:g=⟨AA,A5,AA.pt.da.length,c5⟩:=by simpa using hg
       exact Qcx (Qay (QbR own5 (L.trans ((l2.trans l3).trans l4)).size) (l6.trans (Qaa _ _))) hr (by decide) hg8
     have hgl8:(gs++[(⟨AA,A5,AA.pt.da.length,c5⟩:Arw)]).length=gs.length+1:=by simp
     exact⟨⟨k+1,gs++[⟨AA,A5,AA.pt.da.length,c5⟩],A8,c8,by omega,by go_num,by rw[hgl8],by omega,hl8,by rw[hgl8,QAg];exact hown8,hid (by rw[QyZ,hgs.out,hst.out,hD.out];rfl),hgo8,hid (fun h=>by rw[hgl8]at h;omega),Qq2 hnd hgo ((l2.trans l3).trans l4).size own5⟩,by simp[intOf];omega⟩
    ·have fA:((AE:Int) != 0)=true:=bne_iff_ne.2 (by omega)
     have hD:=hid (hd3.out hAE)
     clear hd2 hd3 hA hAE
     go_wp2_with (first
      | (refine QbS rfl ?_;refine Qae rfl rfl _ _ _ rfl w5.heap.size _ _ (AvC ⟨AA,.slice A5 AA.pt.da.length c5⟩) (Blk.new w5 _ (AvC av0)) rfl rfl 24 Qaw (Qak _) (Qak av0) (QaX _ _ _ _) ?_;intro w6 hb6 ho6
         have l6:Later w5 w6:=(Qaa w5 _).only ho6 (Qyv _))
      | fail)
     have L6:=L5.trans l6
     exact⟨⟨k+1,gs,A2,c2,by omega,by go_num,rfl,by omega,L.trans L6,QaF hown L6,hid (by rw[hst.out,hD.out,QyT];exact hgs.out),fun g hg=>Qay (hgo g hg) L6,hnl,hnd⟩,by simp[intOf];omega⟩
   ·have fE:((R.er:Int) != 0)=true:=bne_iff_ne.2 (by omega)
    have hD:Hid (D1=[]):=hid (by rw[hd1,if_neg (fun h=>hE h.1)])
    clear hd1 hE
    go_wp2_with (first
     | (refine QbS rfl ?_;refine Qae rfl rfl _ _ _ rfl w3.heap.size _ _ (tr1 A3 R.vs.length c3 B3 R.bd.length d3 R.tk) (Blk.new w3 _ tz0) rfl rfl 3 Qbp rfl rfl (QdX _ _ _ _ _ _ _) ?_;intro w4 hb4 ho4
        have l4:Later w3 w4:=(Qaa w3 _).only ho4 (Qyv _))
     | fail)
    have L4:=(l2.trans l3).trans l4
    exact⟨⟨k+1,gs,A2,c2,by omega,by go_num,rfl,by omega,L.trans L4,QaF hown L4,hid (by rw[hst.out,hD.out,QyT];exact hgs.out),fun g hg=>Qay (hgo g hg) L4,hnl,hnd⟩,by simp[intOf];omega⟩
  ·obtain rfl:k=m:=by omega
   have hU:gs.map (·.ar)=dlvU xs es:=by rw[hgs.out,QyA (by omega)]
   have hgU:gs.length=(dlvU xs es).length:=by rw[←hU,Qyo]
   have hSd:(srt awK aw0 gs (gs.length-1)).map (·.ar)=dlvS xs es:=by rw[QtD,hU,dlvS,hgU]
   have hSl:(srt awK aw0 gs (gs.length-1)).length=gs.length:=Qda _
   replace hSd:=hid hSd
   clear hU hgU
   rcases Qz5 gs.length with h0|h0
   ·obtain rfl:gs=[]:=Qy4 h0
    obtain rfl:=hnl.out rfl
    go_wp2_with fail
    refine (QrS c2 wr).mono ?_
    rintro e w1 ⟨rfl,rfl⟩
    go_wp2_with fail
    go_ret
    exact⟨none,c2,[],rfl,hown,QAa _,hSd.out,by simp,by simp,L⟩
   ·obtain⟨g,rest,rfl,hbg,hB,hnc,hcm,hbl⟩:=QiB hown h0
    go_wp2_with fail
    refine (QrK w.heap.size g gs.length c2 gs wr hown rfl (by omega)).mono ?_
    rintro e w1 ⟨rfl,own1,ho1⟩
    have hPm:=(QlU (key:=awK) (d:=aw0) (l:=gs) (gs.length-1) (by omega)).filterMap awB
    have hmem:=hid (fun x hx=>QkZ (key:=awK) (d:=aw0) (l:=gs) (gs.length-1) (by omega) x hx)
    generalize srt awK aw0 gs (gs.length-1)=GS at *
    go_wp2_with fail
    go_ret
    exact⟨some ⟨g,0,none⟩,c2,GS,by rw[hSl];rfl,by rw[hSl];exact own1,by rw[hSl];exact hgl,hSd.out,fun q hq=>QaM (hgo q (hmem.out q hq)) hB (by decide) ho1,hPm.nodup_iff.2 hnd,L.only ho1 hbg⟩
theorem Qlw (xs:List Nod):∀(k:Nat) (id:UInt64) (tk:Int) (p:List UInt8) (vs:List Vst),p.length=768→(QdU xs k id tk p vs).bd.length≤480
 | 0,_,_,_,_,_=>QAa _
 | k+1,id,tk,p,vs,hp=>by
   rw[QdU]
   split
   ·exact QAa _
   split
   ·exact QAa _
   split
   ·exact Qm0 _ _ hp
   ·exact Qlw xs k _ _ _ _ (QgR _ _ hp)
theorem Qi8 (xs:List Nod) (tk:Int) (id:UInt64) (b:List UInt8):(Qa7 xs tk id b).bd.length≤480:=by
 unfold Qa7
 split
 ·exact QAa _
 ·rename_i h
  have h0:QgW tk b xs=0:=Classical.not_not.1 h
  unfold QgW at h0
  split at h0
  ·cases h0
  ·rw[QkQ]at h0
   have h1:=h0 (if b.length=768 then 0 else 2) (by simp)
   split at h1
   ·exact Qlw xs 16 id tk b [] (by assumption)
   ·cases h1
theorem Qps (b:List UInt8):(parP b).da.length≤b.length:=by
 unfold parP
 split
 ·unfold QjV
  simp only[subB,QyW,QyQ]
  omega
 ·simp[prt0]
theorem Qo5 (vs:List Vst) (b:List UInt8) (tk:Int):(arvA vs b tk).pt.da.length≤b.length:=by
 unfold arvA
 split
 ·simp[arr0,prt0]
 split
 ·simp[prt0]
 ·exact Qps b
theorem QhF (vs:List Vst) (b:List UInt8) (tk:Int) (h:b.length≤480):(arvA vs b tk).pt.da.length≤480:=QyX (Qo5 vs b tk) h
theorem QmO {xs:List Nod} {es:List Emt}:∀a∈dlvS xs es,a.pt.da.length≤480:=by
 intro a ha
 have hU:∀a∈dlvU xs es,a.pt.da.length≤480:=by
  intro a ha
  obtain⟨e,_,he⟩:=List.mem_flatMap.1 ha
  unfold dlv1 at he
  split at he
  ·obtain rfl:=QzI.1 he
   exact QhF _ _ _ (Qi8 _ _ _ _)
  ·cases he
 unfold dlvS at ha
 rcases Qz5 (dlvU xs es).length with h0|h0
 ·rw[Qy4 h0]at ha
  cases ha
 ·exact hU a (QkZ _ (by omega) a ha)
theorem QqE (da:List UInt8) (h:da.length≤450):ltrs [⟨⟨1,0,0,1,da⟩,2,0,0,Qa3⟩] 1=[⟨0,0,0,da⟩]:=by
 have hp:prtE ⟨1,0,0,1,da⟩=0:=by
  unfold prtE
  rw[if_neg (by simp),if_neg (by show ¬ 450<da.length;omega),if_neg (by show ¬((1:Int)<1∨16<(1:Int)∨(0:Int)<0∨(1:Int)≤0);omega),if_neg (by simp),if_neg (by simp)]
 have hk:Qb2 [] (0,0)=[]:=rfl
 have ht:tkE pid 0 [] ⟨1,0,0,1,da⟩=0:=by
  unfold tkE
  rw[if_neg (by simp[hp]),if_neg (by simp)]
  rfl
 have h1:Qhd [] ⟨⟨1,0,0,1,da⟩,2,0,0,Qa3⟩=[⟨0,0,0,da⟩]:=by
  unfold Qhd
  show (if _ then _ else _)=_
  rw[if_pos ⟨rfl,rfl,by show tkE pid 0 (Qb2 [] (0,0)) _=0;rw[hk];exact ht,by show ((Qb2 [] (0,0)).length:Int)+1=1;rw[hk];rfl⟩]
  show [(⟨0,0,0,Qir (Qb2 [] (0,0)++[⟨1,0,0,1,da⟩])⟩:Ltr)]=_
  rw[hk]
  simp[Qir]
 show (match ([⟨⟨1,0,0,1,da⟩,2,0,0,Qa3⟩]:List Arr)[0]? with|some a=>Qhd [] a|none=>[])++[]=_
 rw[QyT]
 exact h1
theorem QcZ {w:World} {base n c:Nat} {A:Option Addr} {bs:List UInt8} (h:OwnB w base A n c bs) (hn:n≤1099511627776):∃e:Ent,slE e= .slice A n c∧okE e∧∀p,blE e=some p→base≤p.1∧Blk w p.1 p.2.1 p.2.2:=by
 rcases h.2 with ⟨hv,_⟩|⟨g,cap,cur,hv,hb,hh,hc,_,hs,_⟩
 ·exact⟨none,hv.symm,trivial,fun p hp=>by cases hp⟩
 ·injection hv with h1 h2 h3
  subst h1 h3
  refine⟨some (g,n,c,cur.toList),rfl,⟨hc,by simpa using QAp hs.symm,hn⟩,fun p hp=>?_⟩
  cases hp
  exact⟨hb,hh⟩
theorem Bag.permK {w wk:World} {ls ls':List (Nat×TypeId×List Value)} (h:Bag w wk ls) (p:ls.Perm ls'):Bag w wk ls':=
 ⟨h.lat,fun x hx=>h.blk x (p.mem_iff.2 hx),fun x hx=>h.low x (p.mem_iff.2 hx),(p.map _).nodup_iff.1 h.nd⟩
theorem Qlg (e:Ent) (es:List Ent):(e :: es).filterMap blE=(blE e).toList++es.filterMap blE:=by
 rw[List.filterMap_cons]
 cases blE e<;>rfl
theorem Bag.addEnts {w wk v:World} {bx:List (Nat×TypeId×List Value)} {E:List Ent} (h:Bag w wk (bx++E.filterMap blE)) (j:Later wk v) (G:List Ent) (hG:∀e∈G,∀p,blE e=some p→wk.heap.size≤p.1∧Blk v p.1 p.2.1 p.2.2) (hn:((G.filterMap blE).map (·.1)).Nodup):Bag w v (bx++(G++E).filterMap blE):=by
 have h2:Bag wk v (G.filterMap blE):=⟨j,fun p hp=>by
  obtain⟨e,he,hb⟩:=QzR.1 hp
  exact (hG e he p hb).2,fun p hp=>by
  obtain⟨e,he,hb⟩:=QzR.1 hp
  exact (hG e he p hb).1,hn⟩
 have:=h.join h2
 refine this.permK ?_
 rw[List.filterMap_append,←QyK,←QyK]
 exact List.perm_append_comm.append_right _
theorem Bag.addEntK {w wk v:World} {bx:List (Nat×TypeId×List Value)} {E:List Ent} (h:Bag w wk (bx++E.filterMap blE)) (j:Later wk v) (e:Ent) (he:∀p,blE e=some p→wk.heap.size≤p.1∧Blk v p.1 p.2.1 p.2.2):Bag w v (bx++(e :: E).filterMap blE):=
 h.addEnts j [e] (fun x hx=>by obtain rfl:=QzI.1 hx;exact he) (by rw[Qlg];cases blE e<;>simp)
theorem Bag.entsK {w wk:World} {bx:List (Nat×TypeId×List Value)} {E:List Ent} (h:Bag w wk (bx++E.filterMap blE)):Bag w wk (E.filterMap blE):=h.sub (List.sublist_append_right _ _)
theorem Qqe {w:World} {base:Nat}:∀gs:List Arw,(∀ g∈gs,AwOk w base g)→(∀ g∈gs,g.ar.pt.da.length≤480)→
 ∃G:List Ent,G.map slE=gs.map (fun g=>Value.slice g.va g.vn g.vc)∧(∀ e∈G,okE e)∧∀e∈G,∀p,blE e=some p→base≤p.1∧Blk w p.1 p.2.1 p.2.2
 | [],_,_=>⟨[],rfl,by simp,by simp⟩
 | g :: gs,h,hs=>by
   obtain⟨G,h1,h2,h3⟩:=Qqe gs (fun x hx=>h x (QzF _ hx)) (fun x hx=>hs x (QzF _ hx))
   have hg:=h g (QAk ..)
   obtain⟨e,e1,e2,e3⟩:=QcZ hg (by have:=hg.rd.len;have:=hs g (QAk ..);omega)
   refine⟨e :: G,by rw[QyJ,QyJ,e1,h1],fun x hx=>?_,fun x hx=>?_⟩
   ·rcases QyI.1 hx with rfl|hx
    ·exact e2
    ·exact h2 x hx
   ·rcases QyI.1 hx with rfl|hx
    ·exact e3
    ·exact h3 x hx
theorem Qrh {gs:List Arw} {G:List Ent} (h:G.map slE=gs.map (fun g=>Value.slice g.va g.vn g.vc)) (hn:(gs.filterMap awB).Nodup):((G.filterMap blE).map (·.1)).Nodup:=by
 rw[←QeV,h,List.filterMap_map]
 exact hn
theorem Qmr (f e1 e2 e3 e4 e5 e6 e7:Ent) (G:List Ent):(([f,e1,e2,e3,e4]++G++[e6,e7,e5]).filterMap blE).Perm (([e7,e6,e5]++(G++[e4,e3,e2,e1,f])).filterMap blE):=by
 refine List.Perm.filterMap _ ?_
 have hB:([f,e1,e2,e3,e4]:List Ent).Perm [e4,e3,e2,e1,f]:=(List.reverse_perm [f,e1,e2,e3,e4]).symm
 have hA:([e6,e7,e5]:List Ent).Perm [e7,e6,e5]:=List.Perm.swap _ _ _
 rw[QyK]
 refine ((hB.append ((List.Perm.refl G).append hA))).trans ?_
 refine (List.perm_append_comm).trans ?_
 rw[QyK]
 refine (List.perm_append_comm).trans ?_
 rw[QyK]
 exact List.perm_append_comm.append_left _
theorem QkH (f e1 e2 e3 e4 e5:Ent) (G:List Ent):(([f,e1,e2,e3,e4]++G).filterMap blE).Perm ((G++[e4,e3,e2,e1,f]).filterMap blE):=by
 refine List.Perm.filterMap _ ?_
 have hB:([f,e1,e2,e3,e4]:List Ent).Perm [e4,e3,e2,e1,f]:=(List.reverse_perm [f,e1,e2,e3,e4]).symm
 exact (hB.append_right G).trans List.perm_append_comm
end Go.Proofs.YtcbdgnlcknllnaaGreat
