/-
  Lemmas for the last text of this claim (part 17 of 20).
-/
import Derived.ArgAppend
import Derived.BigQuiet
import Derived.BigRegion
import Derived.ChangeOld
import Derived.Deep.RegionWith
import Derived.DeepKeys4
import Derived.JoinedCond
import Derived.LaidMore
import Derived.Laws.BytesArg
import Derived.Laws.CopyOwn
import Derived.Laws.Externs
import Derived.Laws.IdiomStrings
import Derived.Laws.Tables
import Derived.Lib.AppendStr
import Derived.Lib.AppendZerosOnto
import Derived.Lib.Mul64
import Derived.Lib.SlBytesConst
import Derived.LoopN
import Derived.Maps.OwnSet
import Derived.OpenShut
import Derived.OrdersHeld
import Derived.ProofKit
import Derived.Shelf.Spec.BitsCarry
import Derived.ShutString
import Derived.Test.YtdhgpkdjdmlphaaGreatProg
import Derived.Test.YtdhgpkdjdmlphaaGreatRows
import Derived.WalkKit
import Derived.WalkLawsBesides
import Derived.WalkSpells
import Derived.Test.YtdhgpkdjdmlphaaGreatUB
import Derived.Test.YtdhgpkdjdmlphaaGreatUD
import Derived.Test.YtdhgpkdjdmlphaaGreatUE
import Derived.Test.YtdhgpkdjdmlphaaGreatUJ
import Derived.Test.YtdhgpkdjdmlphaaGreatUN
import Derived.Test.YtdhgpkdjdmlphaaGreatUO
open Bool renaming and_eq_true → QGM, eq_iff_iff → QHh
open List renaming replicate → QGn, getElem?_cons_succ → QGo, getElem?_cons_zero → QGp, getD_eq_getElem?_getD → QGq, length_map → QGr, getElem?_eq_getElem → QGt, cons_append → QGu, nil_append → QGv, setIfInBounds_toArray → QGw, length_append → QGy, set_cons_zero → QGz, length_replicate → QGA, set_cons_succ → QGB, map_toArray → QGC, take_of_length_le → QGD, getElem?_map → QGF, getElem?_append_left → QGG, map_nil → QGH, append_assoc → QGI, mem_cons → QGJ, not_mem_nil → QGK, getElem?_eq_some_iff → QGL, length_take → QGP, length_drop → QGQ, map_cons → QGR, length_set → QGV, append_nil → QGW, take_append_drop → QGX, mem_map → QG2, map_append → QG6, drop_left' → QHc, mem_append → QHd, take_append_of_le_length → QHf, getElem_mem → QHi, drop_of_length_le → QHj, getElem?_drop → QHA, drop_append_of_le_length → QHC, getElem?_range → QHD, getElem?_take → QHJ, take_left' → QHK, mem_singleton → QHO, getElem?_set_self → QHS, getElem?_replicate → QH1, take_add_one → QIr, drop_append → QIG, take_zero → QIS
open Nat renaming le_refl → QGx, zero_add → QGT, add_zero → QIf, add_assoc → QIO
open Option renaming toList_some → QGs
set_option linter.all false
namespace Go.Proofs.YtdhgpkdjdmlphaaGreat
open Go.RowKit
open Go.BigFrame
structure Arw where
 ar:Arr
 va:Option Addr
 vn:Nat
 vc:Nat
def ArC (x:Arw):List Value:=AvC ⟨x.ar,.slice x.va x.vn x.vc⟩
theorem QbV (x:Arw):(ArC x).length=24:=Qam _
abbrev az0:List Value:=[.int .u8 0,.int .u64 0,.int .i64 0,.int .i64 0,.slice none 0 0,.int .u8 0,.int .u64 0,.int .i64 0,.int .u8 0,.int .u8 0,.int .u8 0,.int .u8 0,.int .u8 0,.int .u8 0,.int .u8 0,.int .u8 0,.int .u8 0,.int .u8 0,.int .u8 0,.int .u8 0,.int .u8 0,.int .u8 0,.int .u8 0,.int .u8 0]
theorem Qe7 {P:Program} {o:Oper} {a:Act} {J:Act→Prop} (ty:TypeId) (x:Operand) (ho:o.op= .load ty x) {w0:World} {g:Nat} {t:TypeId} {l:List Value} (off:Nat) (vs:List Value) (hb:Blk w0 g t l) (hx:a.eval x= .pointer (some ⟨g,off,none⟩))
 (hv:∀j v,vs[j]?=some v→l[off+j]?=some v) (d:TypeDesc) (hu:P.underlying ty=some d) (hd:QbT d=true) (hi:(P.info? ty).map (·.size)=some vs.length) (h:J (a.put o.dst (.agg vs.toArray))):o.quiet P a (fun w'=>∃x,w'=grow w0 x) J:=
 QaJ _ x ho g off vs (fun _ hw j v hv'=>by obtain⟨y,rfl⟩:=hw;exact (hb.later ⟨y,rfl⟩).cellD _ (hv j v hv')) hx d hu hd hi h
theorem QnQ {P:Program} {C:World→Prop} {a:Act} {o:Oper} {K:Act→Prop} (t:TypeId) (parts:Array (Nat×Operand)) (ho:o.op= .build t parts) (vs:List Value) (hb:P.built t (parts.map fun (i,x)=>(i,a.eval x)).toList=some vs.toArray)
 (h:K (a.put o.dst (.agg vs.toArray))):o.quiet P a C K:=
 ⟨.agg vs.toArray,fun w hw=>by
   unfold Oper.quietAt execOp
   simp only[ho,Sem.run_bind,run_build w t _ _ hb,Result.andThen_ok]
   exact⟨rfl,rfl⟩,h⟩
theorem QtD:(Tryz.prog.info? 31).map (·.size)=some 16:=by kernel_rfl
theorem QaN:(Tryz.prog.info? 114).map (·.size)=some 24:=by kernel_rfl
theorem Qbv (ar:Arr) (A:Option Addr) (n c:Nat):∀u∈AvC ⟨ar,.slice A n c⟩,u.oneCell'=true:=by
 intro u hu
 rcases QHd.1 hu with hu|hu
 ·exact QhK _ rfl u hu
 ·simp only[QGJ,QG2]at hu
  rcases hu with rfl|rfl|rfl|⟨b,_,rfl⟩<;>rfl
theorem Qpa (x:Arv) (h:x.va.oneCell'=true):∀u∈AvC x,u.oneCell'=true:=by
 intro u hu
 rcases QHd.1 hu with hu|hu
 ·exact QhK _ h u hu
 ·simp only[QGJ,QG2]at hu
  rcases hu with rfl|rfl|rfl|⟨b,_,rfl⟩<;>rfl
theorem QhJ:(Tryz.prog.info? 114).map (·.size)=some 24:=by kernel_rfl
theorem QDU {w:World} {g g':Nat} {t t':TypeId} {l l':List Value} (h:Blk w g t l) (h':Blk w g' t' l') (hne:t≠t'):g≠g':=by
 rintro rfl
 have:=h.symm.trans h'
 simp only[Option.some.injEq,Obj.cells.injEq]at this
 exact hne this.2.1
def pv0:List Value:=QGn 16 (.slice none 0 0)
theorem QDF:(Tryz.prog.info? 204).bind (·.zero)=some (.agg (MsC 0 [] pv0).toArray):=by kernel_rfl
theorem QyT (a:UInt64):Tryz.prog.built 204 [(0,W64 a)]=some (MsC a [] pv0).toArray:=by
 rw[QaQ (pl:=[(0,1),(1,1),(2,1),(3,16),(19,16)]) Tryz.underlying204 QDF (by kernel_rfl),QaR (vs:=[W64 a]) (off:=0) rfl rfl (by rw[Qk6 _ _ _ (by simp[pv0])];simp),Qb0]
 rfl
theorem QCS:(Tryz.prog.info? 140).map (fun i=>(i.zero,i.size,i.bytes))=some (some (.agg (LtC lv0).toArray),4,48):=by kernel_rfl
theorem QAO:(Tryz.prog.info? 140).map (fun i=>(i.zero,i.size))=some (some (.agg (LtC lv0).toArray),4):=by kernel_rfl
theorem Qut:(Tryz.prog.info? 25).map (fun i=>(i.zero,i.size))=some (some (.agg (PaC prt0 (.slice none 0 0)).toArray),5):=by kernel_rfl
theorem QDX:(Tryz.prog.info? 140).bind (·.zero)=some (.agg (LtC lv0).toArray):=by kernel_rfl
theorem Qyx (y:Ltv):Tryz.prog.built 140 [(0,W64 y.lt.to),(1,W64 y.lt.id),(2,.int .i64 y.lt.tk),(3,.slice y.va y.vn y.vc)]=some (LtC y).toArray:=by
 rw[QaQ (pl:=[(0,1),(1,1),(2,1),(3,1)]) Tryz.underlying140 QDX (by kernel_rfl),QaR (vs:=[W64 y.lt.to]) (off:=0) rfl rfl (by simp[LtC]),QaR (vs:=[W64 y.lt.id]) (off:=1) rfl rfl (by simp[LtC,Qar]),
  QaR (vs:=[.int .i64 y.lt.tk]) (off:=2) rfl rfl (by simp[LtC,Qar]),QaR (vs:=[.slice y.va y.vn y.vc]) (off:=3) rfl rfl (by simp[LtC,Qar]),Qb0]
 rfl
theorem QeV {w:World} {g:Nat} {t:TypeId} {ar:Arr} {v:Value} (h:Blk w g t (AvC ⟨ar,v⟩)):w.cell? ⟨g,5,none⟩=some (W8 ar.kd)∧w.cell? ⟨g,6,none⟩=some (W64 ar.to)∧w.cell? ⟨g,7,none⟩=some (.int .i64 ar.tk)∧w.cell? ⟨g,0,none⟩=some (W8 ar.pt.kd)∧w.cell? ⟨g,1,none⟩=some (W64 ar.pt.id):=
 ⟨h.cellD 5 rfl,h.cellD 6 rfl,h.cellD 7 rfl,h.cellD 0 rfl,h.cellD 1 rfl⟩
theorem Qk2 {w:World} {g:Nat} {t:TypeId} {ar:Arr} {v:Value} (h:Blk w g t (AvC ⟨ar,v⟩)):∀(j:Nat) u,(PaC ar.pt v)[j]?=some u→w.cell? ⟨g,0+j,none⟩=some u:=by
 intro j u hu
 rw[QGT]
 refine h.cellD j ?_
 have hl:=(QGL.1 hu).1
 rw[AvC,QGG hl]
 exact hu
theorem QAd (w:World) (base:Nat) (id:UInt64) (hb:base≤w.heap.size):MsgAt (w.alloc (.cells (MsC id [] pv0).toArray 204)) base w.heap.size id [] pv0:=by
 refine⟨Blk.new w _ _,hb,by simp[pv0],fun i v hv=>.inl ⟨?_,rfl⟩⟩
 rw[pv0,QH1]at hv
 split at hv
 ·exact (Option.some.inj hv).symm
 ·cases hv
theorem QqN (w:World):(zeroValue 200).run Tryz.prog w= .ok (.pointer none) w:=by kernel_rfl
set_option maxRecDepth 100000 in
set_option maxHeartbeats 4000000 in
theorem QoR (A:Option Addr) (n c:Nat) (xs:List Arv) (w:World) (hx:RdF AvC 24 av0 w A n xs) (hok:∀x∈xs,AvOk w x) (hn:n≤1048576):
 Calls Tryz.prog 48 #[.slice A n c] w fun e w'=>∃v ys,e= .returned v∧(∃ bm k f K,LSt w w' bm k f K v ys)∧ys.map (·.lt)=ltrs (xs.map (·.ar)) n:=by
 have hxl:=hx.1
 go_enter Tryz.func48,Tryz.ntmps48
 have hmm:= @run_makeMap Tryz.prog
 go_wp2
 go_loopw [3,14] (fun v3 i wr=>∃(k m:Nat) (f:UInt64×UInt64→Option Nat) (ys:List Ltv),k≤n∧i= .int .i64 k∧m≤k∧ys.length≤k∧LSt w wr w.heap.size m f (QbD ((xs.map (·.ar)).take k)) v3 ys∧ys.map (·.lt)=ltrs (xs.map (·.ar)) k) (fun _ i _=>n-(intOf i).toNat)
 case atStart=>
  refine⟨0,0,fun _=>none,[],by omega,rfl,by omega,by simp,⟨Qc2 w _,PMap.made w QBj,QGx _,by simp,fun _ _=>rfl,by simp,?_,by simp⟩,rfl⟩
  exact⟨by simp,.inl ⟨rfl,rfl⟩⟩
 case round=>
  clear hmm
  obtain⟨k,m,f,ys,hk,rfl,hm,hyl,S,hys⟩:=hrel
  by_cases hlt:k<n
  ·obtain⟨b,o,rfl,hb,hc⟩:=(hx.later S.lat).at_ hlt
   have hmem:xs.getD k av0∈xs:=by
    rw[QGq,QGt (by omega)]
    exact QHi _
   have har:(xs.map (·.ar))[k]?=some (xs.getD k av0).ar:=by
    rw[QGF,QGq,QGt (by omega)]
    rfl
   have htk:(xs.map (·.ar)).take (k+1)=(xs.map (·.ar)).take k++[(xs.getD k av0).ar]:=by
    rw[QIr,har]
    rfl
   have hls:=Qm7 (xs.map (·.ar)) k _ har
   have hks:=fun y=>QiQ ((xs.map (·.ar)).take k) y (xs.getD k av0).ar
   have hkok:=Qjt ((xs.map (·.ar)).take k)
   rw[←htk]at hks
   obtain⟨A5,n5,c5,hva,hnc5,hrd5⟩:=hok _ hmem
   generalize xs.getD k av0=x at *
   obtain⟨ar,va⟩:=x
   simp only at har htk hls hks hva hrd5
   subst hva
   generalize (xs.map (·.ar)).take k=T at *
   generalize hK':QbD ((xs.map (·.ar)).take (k+1))=K' at *
   have hKs:(fun y=>if mine y ar then tkK pid y.2 (QbD T y) ar.pt else QbD T y)=K':=by
    funext y
    exact (hks y).symm
   have HKs:=hid hKs
   have HLs:=hid hls
   have HY:=hid hys
   clear hks hls hys hKs har htk hmem
   generalize hK:QbD T=K at *
   by_cases hsk:ar.kd=2∧ar.pt.kd=1
   ·obtain⟨hkd,hpk⟩:=hsk
    have hb1:(ar.kd != 2)=false:=by simp[hkd]
    have hb3:(ar.pt.kd != 1)=false:=by simp[hpk]
    have hxm:∀y,mine y ar=decide (y=(ar.to,ar.pt.id)):=by
     intro y
     unfold mine
     rw[hkd,hpk]
     apply QHh.2
     simp only[QGM,beq_iff_eq,decide_eq_true_eq]
     constructor
     ·rintro⟨⟨_,h1⟩,h2⟩
      exact Prod.ext h1.symm h2.symm
     ·rintro rfl
      simp
    have hKn:(fun y=>if y=(ar.to,ar.pt.id) then tkK pid ar.pt.id (K (ar.to,ar.pt.id)) ar.pt else K y)=K':=by
     rw[←HKs.out]
     funext y
     rw[hxm y]
     by_cases hy:y=(ar.to,ar.pt.id)
     ·subst hy
      simp
     ·simp[hy]
    have HKn:=hid hKn
    clear hKn hxm HKs
    have hfc:f (ar.to,ar.pt.id)=none∨∃g,f (ar.to,ar.pt.id)=some g:=by
     cases f (ar.to,ar.pt.id)
     ·exact .inl rfl
     ·exact .inr ⟨_,rfl⟩
    have hfc2:(f (ar.to,ar.pt.id)=none)∨∃G,f (ar.to,ar.pt.id)=some G:=hfc
    clear hfc
    rcases hfc2 with hfx|⟨G,hfx⟩
    case' inl=>
     go_wp2_with (first
      | (refine Qan ?hw _ _ rfl b (o+k*24) (AvC ⟨ar,.slice A5 n5 c5⟩) hc rfl _ Tryz.underlying114 rfl (by rw[Qam];exact QhJ) ?_;(case hw=>rfl))
      | (refine Qai rfl rfl _ _ _ rfl wr.heap.size _ _ (AvC ⟨ar,.slice A5 n5 c5⟩) (Blk.new wr _ (AvC av0)) rfl rfl 24 QhJ (Qam ⟨ar,.slice A5 n5 c5⟩) (Qam av0) (Qpa ⟨ar,.slice A5 n5 c5⟩ rfl) ?_;intro w2 hb2 ho2
         obtain⟨e5,e6,e7,e0,e1⟩:=QeV hb2
         have hlt2:wr.heap.size<w2.heap.size:=hb2.lt
         have l2:Later wr w2:=(Qaa wr _).only ho2 (QGx _))
      | (refine QiR rfl _ _ rfl Tryz.underlying197 (QqN _) rfl (S.later (l2.trans (Qaa _ _))).map (ar.to,ar.pt.id) rfl ?_;rw[hfx];simp only[ptrV])
      | (refine Qah ?hw 204 _ rfl (MsC ar.pt.id [] pv0) (by simp only[QGC,QGR,QGH];exact QyT _) ?_;(case hw=>rfl))
      | (refine Qs1 rfl _ _ _ rfl Tryz.underlying197 rfl (S.later (l2.trans ((Qaa _ _).trans (Qaa _ _)))).map (by unfold maxLen;omega) (ar.to,ar.pt.id) (w2.heap.size+1) rfl rfl ?_;intro w5 hp5 ho5
         have S4:=S.later (l2.trans ((Qaa w2 (.cells #[W64 ar.to,W64 ar.pt.id] 199)).trans (Qaa _ (.cells (MsC ar.pt.id [] pv0).toArray 204))))
         have hb5:=QjS (hb2.later ((Qaa w2 (.cells #[W64 ar.to,W64 ar.pt.id] 199)).trans (Qaa _ (.cells (MsC ar.pt.id [] pv0).toArray 204)))) S4.map.obj.choose_spec.choose_spec ho5)
      | (refine Qan ?hw _ _ rfl wr.heap.size 0 (PaC ar.pt (.slice A5 n5 c5)) (Qk2 hb5) rfl _ Tryz.underlying25 rfl (by rw[Qa9];exact QdN) ?_;(case hw=>rfl))
      | (refine Qc1 ?hw 126 _ rfl 25 5 _ (PaC ar.pt (.slice A5 n5 c5)) Tryz.underlying126 Qut (by omega) (by omega) (Qa9 _ _) rfl ?_;(case hw=>rfl))
      | fail)
     have em:(w2.alloc (.cells #[W64 ar.to,W64 ar.pt.id] 199)).heap.size=w2.heap.size+1:=by simp
     have hmn:=QAd (w2.alloc (.cells #[W64 ar.to,W64 ar.pt.id] 199)) w.heap.size ar.pt.id (by have:=S.lat.size;omega)
     rw[em]at hmn
     have S5a:=S4.put (x0:=(ar.to,ar.pt.id)) (g:=w2.heap.size+1) hfx hmn (fun y hy=>by
      obtain⟨_,hm⟩:=S.msg y _ hy
      have:=hm.blk.lt
      omega) hp5 ho5
     obtain⟨m5,hm5,f5,hG,S5⟩:∃m5,m5≤k+1∧∃f5:UInt64×UInt64→Option Nat,f5 (ar.to,ar.pt.id)=some (w2.heap.size+1)∧LSt w w5 w.heap.size m5 f5 K u3 ys:=⟨m+1,by omega,_,by simp,S5a⟩
     clear S5a hmn em S4 hp5 ho5
     generalize w2.heap.size+1=G at *
    case' inr=>
     go_wp2_with (first
      | (refine Qan ?hw _ _ rfl b (o+k*24) (AvC ⟨ar,.slice A5 n5 c5⟩) hc rfl _ Tryz.underlying114 rfl (by rw[Qam];exact QhJ) ?_;(case hw=>rfl))
      | (refine Qai rfl rfl _ _ _ rfl wr.heap.size _ _ (AvC ⟨ar,.slice A5 n5 c5⟩) (Blk.new wr _ (AvC av0)) rfl rfl 24 QhJ (Qam ⟨ar,.slice A5 n5 c5⟩) (Qam av0) (Qpa ⟨ar,.slice A5 n5 c5⟩ rfl) ?_;intro w2 hb2 ho2
         obtain⟨e5,e6,e7,e0,e1⟩:=QeV hb2
         have hlt2:wr.heap.size<w2.heap.size:=hb2.lt
         have l2:Later wr w2:=(Qaa wr _).only ho2 (QGx _)
         have hb5:=hb2.later (Qaa w2 (.cells #[W64 ar.to,W64 ar.pt.id] 199)))
      | (refine QiR rfl _ _ rfl Tryz.underlying197 (QqN _) rfl (S.later (l2.trans (Qaa _ _))).map (ar.to,ar.pt.id) rfl ?_;rw[hfx];simp only[ptrV])
      | (refine Qan ?hw _ _ rfl wr.heap.size 0 (PaC ar.pt (.slice A5 n5 c5)) (Qk2 hb5) rfl _ Tryz.underlying25 rfl (by rw[Qa9];exact QdN) ?_;(case hw=>rfl))
      | (refine Qc1 ?hw 126 _ rfl 25 5 _ (PaC ar.pt (.slice A5 n5 c5)) Tryz.underlying126 Qut (by omega) (by omega) (Qa9 _ _) rfl ?_;(case hw=>rfl))
      | fail)
     have S5a:=S.later (l2.trans (Qaa w2 (.cells #[W64 ar.to,W64 ar.pt.id] 199)))
     obtain⟨m5,hm5,f5,hG,S5⟩:∃m5,m5≤k+1∧∃f5:UInt64×UInt64→Option Nat,f5 (ar.to,ar.pt.id)=some G∧LSt w (w2.alloc (.cells #[W64 ar.to,W64 ar.pt.id] 199)) w.heap.size m5 f5 K u3 ys:=⟨m,by omega,f,hfx,S5a⟩
     clear S5a
     have em:(w2.alloc (.cells #[W64 ar.to,W64 ar.pt.id] 199)).heap.size=w2.heap.size+1:=by simp
     rw[←em]
     clear em
     generalize w2.alloc (.cells #[W64 ar.to,W64 ar.pt.id] 199)=w5 at *
    all_goals
     clear S ho2 e5 e6 e7 e0 e1 hlt2 l2 hb2 hfx
     have T6:=S5.later (Qaa w5 (.cells (PaC ar.pt (.slice A5 n5 c5)).toArray 25))
     obtain⟨pv6,M6⟩:=T6.msg (ar.to,ar.pt.id) G hG
     have hb6:=hb5.later (Qaa w5 (.cells (PaC ar.pt (.slice A5 n5 c5)).toArray 25))
     have hav:Avoid (· =G) A5 n5:=fun h0 ad had e=>by
      obtain⟨b',o',hA,hlt',_⟩:=hrd5.2 h0
      rw[hA]at had
      cases had
      have:=M6.low
      simp only at e
      omega
     have hkx:=hkok (ar.to,ar.pt.id)
     have hks:=hkx.small
     refine (Qws w.heap.size G ar.pt.id (K (ar.to,ar.pt.id)) pv6 ar.pt A5 n5 c5 w5.heap.size 25 _ M6 hkx (hrd5.later T6.lat) hav T6.lat.size (by omega) (Blk.new w5 _ _)).mono ?_
     rintro e w7 ⟨rfl,⟨pv7,M7⟩,O7⟩
     have S7:=T6.took hG M7 O7
     have hb7:=hb6.only O7 (QDU hb6 M6.blk (by decide))
     clear T6 M6 hb6 hav O7 S5 hb5
     rw[HKn.out]at S7
     have hKT:Hid (QbD T (ar.to,ar.pt.id)=K (ar.to,ar.pt.id)):=hid (by rw[hK])
     have hcell:=QeV hb7
     have hok1:=hid (fun h:tkE pid ar.pt.id (K (ar.to,ar.pt.id)) ar.pt=0=>(show tkK pid ar.pt.id (K (ar.to,ar.pt.id)) ar.pt=K (ar.to,ar.pt.id)++[ar.pt] by rw[tkK,if_pos h]))
     have hkn:KeptOk (tkK pid ar.pt.id (K (ar.to,ar.pt.id)) ar.pt):=hkx.snoc
     have HSk:=hid (fun h:QjX T ar=[]=>(show ys.map (·.lt)=ltrs (xs.map (·.ar)) (k+1) by rw[HY.out,HLs.out,h,QGW]))
     have HLt:Hid (QjX T ar=if ar.kd=2∧ar.pt.kd=1∧tkE pid ar.pt.id (K (ar.to,ar.pt.id)) ar.pt=0∧((K (ar.to,ar.pt.id)).length:Int)+1=ar.pt.ct then [⟨ar.to,ar.pt.id,ar.tk,Qmr (K (ar.to,ar.pt.id)++[ar.pt])⟩] else []):=hid (by rw[QjX,hKT.out])
     by_cases hE:tkE pid ar.pt.id (K (ar.to,ar.pt.id)) ar.pt=0
     ·rw[hE]
      have hap:=hok1.out hE
      rw[hap]at M7 hkn
      have hct:ctOf (K (ar.to,ar.pt.id)++[ar.pt])=ar.pt.ct:=QnU _ _
      have hlen:((K (ar.to,ar.pt.id)++[ar.pt]).length:Int)=((K (ar.to,ar.pt.id)).length:Nat)+1:=by simp
      have hMi:=Qjn w.heap.size G ar.pt.id _ pv7 w7 M7 hkn (by simp)
      have hMb:Hid (∀ (_:((K (ar.to,ar.pt.id)).length:Int)+1=ar.pt.ct) (w':World) (l:Later w7 w'),_):=hid (fun hf w' l=>QrJ w.heap.size G ar.pt.id _ pv7 w' (M7.later l) hkn (by simp) (by rw[hlen,hct];exact hf))
      have hle:=(hkn.ct (by simp)).2.2.1
      rw[hct,hlen]at hMi hle
      have hc16:=(QiT (Qiz hE).2.1).2.1
      have HE:=hid hE
      clear hct hlen hap hE hok1 M7 hkn hkx hKT
      generalize Qmr (K (ar.to,ar.pt.id)++[ar.pt])=WH at *
      generalize (K (ar.to,ar.pt.id)).length=KL at *
      go_wp2_with fail
      refine hMi.mono ?_
      rintro e w8 ⟨rfl,j8⟩
      have S8:=S7.later j8
      have hb8:=hb7.later j8
      obtain⟨e5,e6,e7,e0,e1⟩:=QeV hb8
      clear hMi S7 hb7 hcell
      by_cases hfull:(KL:Int)+1=ar.pt.ct
      ·have hd:decide ((KL:Int)+1<ar.pt.ct)=false:=decide_eq_false (by omega)
       have hB:=hMb.out hfull w8 j8
       have hl1:=hid (HLt.out.trans (if_pos ⟨hkd,hpk,HE.out,hfull⟩))
       clear hMb HSk HLt hfull
       go_wp2_with fail
       refine hB.mono ?_
       rintro e w9 ⟨A9,n9,c9,rfl,hown9,j9⟩
       have S9:=S8.later j9
       have hb9:=hb8.later j9
       have hw9:w.heap.size≤w8.heap.size:=S8.lat.size
       clear S8 hb8 hB e5 e6 e7 e0 e1 hd
       obtain⟨e5,e6,e7,e0,e1⟩:=QeV hb9
       obtain⟨y,hy⟩:∃y:Ltv,y=⟨⟨ar.to,ar.pt.id,ar.tk,WH⟩,A9,n9,c9⟩:=⟨_,rfl⟩
       have hyb:=hid (Qyx y)
       go_wp2_with (first
        | (refine Qah ?hw 140 _ rfl (LtC y) (by simp only[QGC,QGR,QGH];rw[←hyb.out,hy];rfl) ?_;(case hw=>rfl))
        | (refine Qc1 ?hw 135 _ rfl 140 4 _ (LtC y) Tryz.underlying135 QAO (by omega) (by omega) rfl rfl ?_;(case hw=>rfl))
        | (refine Qci (F:=LtC) (d:=lv0) Qk4 Qz9 (by omega) rfl _ _ _ rfl 140 _ 48 Tryz.underlying135 QCS rfl w _ _ _ (QaB S9.own (Qaa _ _)) (S9.lat.trans (Qaa _ _)) (some ⟨w9.heap.size,0,none⟩) 1 1 [y] (QhG Qk4 (by rw[show [y].flatMap LtC=LtC y by simp];exact Blk.new w9 _ _) rfl) rfl rfl (by omega) (by omega) ?_;intro A10 c10 w10 hown10 hl10 hg10)
        | fail)
       have hown9':=QaF (Qcq hown9 hw9) (Qaa w9 (.cells (LtC y).toArray 140))
       have hys2:(ys++[y]).map (·.lt)=ltrs (xs.map (·.ar)) (k+1):=by
        rw[QG6,HY.out,HLs.out,hl1.out,hy]
        rfl
       have S10:=(S9.later (Qaa w9 (.cells (LtC y).toArray 140))).wrote (y:=y) (by simpa using hown10) hg10 hl10 (by rw[hy];rw[hy]at hown9';exact hown9')
       exact⟨⟨k+1,m5,f5,ys++[y],by omega,by go_num,by omega,by simp;omega,by rw[hK'];exact S10,hys2⟩,by simp[intOf];omega⟩
      ·have hd:decide ((KL:Int)+1<ar.pt.ct)=true:=decide_eq_true (by omega)
       have hsk:=hid (HSk.out (by rw[HLt.out,if_neg (fun h=>hfull h.2.2.2)]))
       clear HSk HLt hMb hfull
       go_wp2_with fail
       exact⟨⟨k+1,m5,f5,ys,by omega,by go_num,by omega,by omega,by rw[hK'];exact S8,hsk.out⟩,by simp[intOf];omega⟩
     ·have hsk:=hid (HSk.out (by rw[HLt.out,if_neg (fun h=>hE h.2.2.1)]))
      have hE1:((tkE pid ar.pt.id (K (ar.to,ar.pt.id)) ar.pt:Nat):Int)≠0:=by omega
      clear HSk HLt hok1 hkn M7 hKT
      generalize tkE pid ar.pt.id (K (ar.to,ar.pt.id)) ar.pt=E at *
      have hE2:((E:Int) != 0)=true:=by rw[bne_iff_ne];exact hE1
      go_wp2_with fail
      exact⟨⟨k+1,m5,f5,ys,by omega,by go_num,by omega,by omega,by rw[hK'];exact S7,hsk.out⟩,by simp[intOf];omega⟩
   ·have hno:∀y,mine y ar=false:=by
     intro y
     unfold mine
     by_cases h1:ar.kd=2
     ·have h2:(ar.pt.kd==1)=false:=by
       rw[beq_eq_false_iff_ne]
       exact fun h=>hsk ⟨h1,h⟩
      rw[h2]
      simp
     ·have h2:(ar.kd==2)=false:=by simpa using h1
      rw[h2]
      simp
    have hKK:K=K':=by
     rw[←HKs.out]
     funext y
     rw[hno y]
     rfl
    have hl0:QjX T ar=[]:=by
     unfold QjX
     rw[if_neg (fun h=>hsk ⟨h.1,h.2.1⟩)]
    have HLx:=hid (show ys.map (·.lt)=ltrs (xs.map (·.ar)) (k+1) by rw[HY.out,HLs.out,hl0,QGW])
    subst hKK
    have FIN:=hid (fun (w':World) (l:Later wr w')=>S.later l)
    clear HKs HLs HY hl0 hno S
    have hb1:(ar.kd != 2)=true∨((ar.kd != 2)=false∧(ar.pt.kd != 1)=true):=by
     by_cases h1:ar.kd=2
     ·exact .inr ⟨by simp[h1],by rw[bne_iff_ne];exact fun h=>hsk ⟨h1,h⟩⟩
     ·exact .inl (by simpa using h1)
    clear hsk
    rcases hb1 with hb1|⟨hb1,hb3⟩
    all_goals
     go_wp2_with (first
      | (refine Qan ?hw _ _ rfl b (o+k*24) (AvC ⟨ar,.slice A5 n5 c5⟩) hc rfl _ Tryz.underlying114 rfl (by rw[Qam];exact QhJ) ?_;(case hw=>rfl))
      | (refine Qai rfl rfl _ _ _ rfl wr.heap.size _ _ (AvC ⟨ar,.slice A5 n5 c5⟩) (Blk.new wr _ (AvC av0)) rfl rfl 24 QhJ (Qam ⟨ar,.slice A5 n5 c5⟩) (Qam av0) (Qpa ⟨ar,.slice A5 n5 c5⟩ rfl) ?_;intro w2 hb2 ho2
         obtain⟨e5,e6,e7,e0,e1⟩:=QeV hb2
         have hlt2:wr.heap.size<w2.heap.size:=hb2.lt
         have l2:Later wr w2:=(Qaa wr _).only ho2 (QGx _))
      | fail)
     exact⟨⟨k+1,m,f,ys,by omega,by go_num,by omega,by omega,by rw[hK'];exact FIN.out _ l2,HLx.out⟩,by simp[intOf];omega⟩
  ·obtain rfl:k=n:=by omega
   go_wp2_with fail
   go_ret
   exact⟨_,ys,rfl,⟨_,_,_,_,S⟩,hys⟩
abbrev tz0:List Value:=[.slice none 0 0,.slice none 0 0,.int .i64 0]
theorem Qui:Tryz.prog.built 119 []=some tz0.toArray:=by kernel_rfl
theorem Qdh:(Tryz.prog.info? 119).map (·.size)=some 3:=by kernel_rfl
theorem QpL:∀u∈tz0,u.oneCell'=true:=by
 intro u hu
 simp only[QGJ,QGK,or_false]at hu
 rcases hu with rfl|rfl|rfl<;>rfl
theorem QBV:(Tryz.prog.info? 114).map (fun i=>(i.zero,i.size))=some (some (.agg (AvC av0).toArray),24):=by kernel_rfl
abbrev tr1 (A:Option Addr) (n c:Nat) (B:Option Addr) (m d:Nat) (tk:Int):List Value:=[.slice A n c,.slice B m d,.int .i64 tk]
theorem Qhs (A:Option Addr) (n c:Nat) (B:Option Addr) (m d:Nat) (tk:Int):∀u∈tr1 A n c B m d tk,u.oneCell'=true:=by
 intro u hu
 simp only[QGJ,QGK,or_false]at hu
 rcases hu with rfl|rfl|rfl<;>rfl
theorem QyI (v:Vst):∀u∈VC v,u.oneCell'=true:=by
 intro u hu
 simp only[VC,CC,QGu,QGJ,QHd,QG2,QGK,or_false]at hu
 rcases hu with rfl|rfl|rfl|rfl|⟨b,_,rfl⟩|rfl|rfl<;>rfl
theorem QCV:(Tryz.prog.info? 187).bind (·.zero)=some (.agg (VC vst0).toArray):=by kernel_rfl
theorem QCH:(Tryz.prog.info? 187).map (fun i=>(i.zero,i.size,i.bytes))=some (some (.agg (VC vst0).toArray),22,48):=by kernel_rfl
theorem QBx:(Tryz.prog.info? 187).map (fun i=>(i.zero,i.size))=some (some (.agg (VC vst0).toArray),22):=by kernel_rfl
theorem Qwz (v:Vst):Tryz.prog.built 187 [(0,.agg (CC v.cm).toArray),(1,W64 v.id),(2,.int .i64 v.tk)]=some (VC v).toArray:=by
 rw[QaQ (pl:=[(0,20),(20,1),(21,1)]) Tryz.underlying187 QCV (by kernel_rfl),QaR (vs:=CC v.cm) (off:=0) rfl (by rw[Qao];rfl) (by rw[QaP,Qao];omega),
  QaR (vs:=[W64 v.id]) (off:=20) rfl rfl (by rw[QaW _ _ _ (by rw[QaP,Qao];omega),QaP];simp),QaR (vs:=[.int .i64 v.tk]) (off:=21) rfl rfl (by rw[QaW _ _ _ (by rw[QaW _ _ _ (by rw[QaP,Qao];omega),QaP];simp),QaW _ _ _ (by rw[QaP,Qao];omega),QaP];simp),Qb0]
 congr 2
 have h1:(CC v.cm).length=20:=Qao _
 have h2:(CC vst0.cm).length=20:=Qao _
 rw[VC,VC]
 generalize CC v.cm=a at *
 generalize CC vst0.cm=z at *
 have e1:Qar (z++[W64 vst0.id,.int .i64 vst0.tk]) 0 a=a++[W64 vst0.id,.int .i64 vst0.tk]:=by
  rw[Qar,QIS,QGv,QGT,h1,QHc h2]
 rw[e1]
 have e2:Qar (a++[W64 vst0.id,.int .i64 vst0.tk]) 20 [W64 v.id]=a++[W64 v.id,.int .i64 vst0.tk]:=by
  rw[Qar,QHK h1,QGI,QIG,h1,QHj (by omega)]
  rfl
 rw[e2]
 rw[Qar,List.take_append,h1,QGD (by omega),QGI,QIG,h1,QHj (by omega)]
 simp
theorem QqV {w:World} {base g sz N:Nat} {e:TypeId} {l:List Value} (h:Blk w g e l) (hb:base≤g) (hl:l.length=N*sz) (hm:N≤maxLen):w.ownsRow base e sz (.slice (some ⟨g,0,none⟩) N N) N l:=
 ⟨hl,.inr ⟨g,N,l.toArray,rfl,hb,h,QGx _,hm,by simp[hl],by simp[←hl]⟩⟩
theorem Qf3 {w:World} {base sz n c:Nat} {e:TypeId} {A:Option Addr} {vs:List Value} (h:w.ownsRow base e sz (.slice A n c) n vs) (hn:0<n):
 ∃g rest,A=some ⟨g,0,none⟩∧base≤g∧Blk w g e (vs++rest)∧n≤c∧c≤maxLen∧(vs++rest).length=c*sz:=by
 rcases h.2 with ⟨hv,h0⟩|⟨g,cap,cur,hv,hb,hh,hnc,hm,hs,ht⟩
 ·omega
 ·cases hv
  have e:vs++cur.toList.drop (n*sz)=cur.toList:=by rw[←ht,QGX]
  refine⟨g,cur.toList.drop (n*sz),rfl,hb,?_,hnc,hm,?_⟩
  ·rw[e]
   exact hh
  ·rw[e,Array.length_toList,hs]
theorem Qwy {w:World} {base g sz n c:Nat} {e:TypeId} {vs rest:List Value} (h:Blk w g e (vs++rest)) (hb:base≤g) (hl:vs.length=n*sz) (hc:(vs++rest).length=c*sz) (hn:n≤c) (hm:c≤maxLen):w.ownsRow base e sz (.slice (some ⟨g,0,none⟩) n c) n vs:=
 ⟨hl,.inr ⟨g,c,(vs++rest).toArray,rfl,hb,h,hn,hm,by simp only[List.size_toArray];exact hc,by show (vs++rest).take _=vs;rw[←hl,List.take_left]⟩⟩
theorem Qng (l r vs:List Value) (o:Nat) (h:o+vs.length≤l.length):Qar (l++r) o vs=Qar l o vs++r:=by
 rw[Qar,Qar,QHf (by omega),QHC (by omega),QGI,QGI,QGI]
section
variable {P:Program} {ops:Array Oper} {rest:List Oper} {o:Oper} {a:Act} {w:World} {Q:Exit→Act→World→Prop} {α:Type} {F:α→List Value} {sz:Nat}
theorem Qbs (hF:∀x,(F x).length=sz) (hF1:∀x,∀u∈F x,u.oneCell'=true) (d:α) (hgd:o.guard=none) (hd:o.dst=none) (ty:TypeId) (x y:Operand) (ho:o.op= .store ty x y) {base g n c:Nat} {e:TypeId} {xs:List α}
 (hown:w.ownsRow base e sz (.slice (some ⟨g,0,none⟩) n c) n (xs.flatMap F)) (hn:xs.length=n) (j:Nat) (hj:j<n) (v:α) (hx:a.eval x= .pointer (some ⟨g,j*sz,none⟩)) (hy:a.eval y= .agg (F v).toArray) (hi:(P.info? ty).map (·.size)=some sz)
 (h:∀w',w'.ownsRow base e sz (.slice (some ⟨g,0,none⟩) n c) n ((xs.set j v).flatMap F)→Only g w w'→wpList P ops Q rest a w'):wpList P ops Q (o :: rest) a w:=by
 obtain⟨g',r,hg,hb,hB,hnc,hm,hl⟩:=Qf3 hown (by omega)
 obtain rfl:g=g':=by simpa using hg
 have hfl:=Qb4 hF xs
 rw[hn]at hfl
 have hjn:j*sz+sz≤n*sz:=by
  rw[←Nat.succ_mul]
  exact Nat.mul_le_mul_right _ hj
 refine Qal hgd hd ty x y ho g (j*sz) e _ (F v) hB hx hy (by rw[hF];exact hi) (by rw[QGy,hF];omega) (hF1 v) ?_
 intro w' hb' ho'
 have e1:Qar (xs.flatMap F) (j*sz) (F v)=(xs.set j v).flatMap F:=by
  have:=Qnv hF d (off:=0) (vs:=F v) (y:=v) xs j (by omega) (by rw[hF];omega) (by rw[Qav _ _ (by rw[hF,hF])])
  rwa [QIf]at this
 have e2:((xs.set j v).flatMap F).length=n*sz:=by rw[Qb4 hF,QGV,hn]
 rw[Qng _ _ _ _ (by rw[hF];omega),e1]at hb'
 exact h w' (Qwy hb' hb e2 (by rw[QGy]at hl ⊢;omega) hnc hm) ho'
end
theorem QlL {P:Program} {C:World→Prop} {a:Act} {o:Oper} {K:Act→Prop} {t:TypeId} (x i:Operand) (ho:o.op= .indexAddr t x i) (v:Value) (hv:∀w,(Instr.indexAt t (a.eval x) (a.eval i)).run P w= .ok v w)
 (h:K (a.put o.dst v)):o.quiet P a C K:=
 ⟨v,fun w hw=>by
   unfold Oper.quietAt execOp
   simp only[ho,Sem.run_bind,hv w,Result.andThen_ok]
   exact⟨rfl,rfl⟩,h⟩
theorem Qjh {P:Program} {o:Oper} {a:Act} {J:Act→Prop} (ty:TypeId) (x:Operand) (ho:o.op= .load ty x) {w0:World} {bad:List Nat} {g:Nat} {t:TypeId} {l:List Value} (off:Nat) (vs:List Value) (hb:Blk w0 g t l) (hn:∀b∈bad,g≠b) (hx:a.eval x= .pointer (some ⟨g,off,none⟩))
 (hv:∀j v,vs[j]?=some v→l[off+j]?=some v) (d:TypeDesc) (hu:P.underlying ty=some d) (hd:QbT d=true) (hi:(P.info? ty).map (·.size)=some vs.length) (h:J (a.put o.dst (.agg vs.toArray))):o.quiet P a (Spared w0 bad) J:=
 QaJ _ x ho g off vs (fun _ hw j v hv'=>Blk.cellD (hw.blk hb hn) _ (hv j v hv')) hx d hu hd hi h
theorem Qel {P:Program} {C:World→Prop} {a:Act} {o:Oper} {K:Act→Prop} (x:Operand) (v:Value) (ho:o.op= .move x) (hv:a.eval x=v) (h:K (a.put o.dst v)):o.quiet P a C K:=
 quiet_move x ho (hv ▸ h)
end Go.Proofs.YtdhgpkdjdmlphaaGreat
namespace Go.Proofs.YtdhgpkdjdmlphaaGreat
open Go.RowKit
section
variable {α:Type} (pr:α→Prt)
end
end Go.Proofs.YtdhgpkdjdmlphaaGreat
namespace Go.Proofs.YtdhgpkdjdmlphaaGreat
open Go.RowKit
open Go.BigFrame
structure Pv where
 p:Prt
 va:Option Addr
 vn:Nat
 vc:Nat
def PvC (x:Pv):List Value:=PaC x.p (.slice x.va x.vn x.vc)
def pvz:Pv:=⟨prt0,none,0,0⟩
theorem Qd5 (x:Pv):(PvC x).length=5:=rfl
theorem Qol (x:Pv):∀u∈PvC x,u.oneCell'=true:=QhK _ rfl
def PvOk (w:World) (x:Pv):Prop:=x.vn≤x.vc∧RdB w x.va x.vn x.p.da
theorem PvOk.later {w w':World} {x:Pv} (h:PvOk w x) (hl:Later w w'):PvOk w' x:=⟨h.1,h.2.later hl⟩
theorem QlR (x:Arw):∀u∈ArC x,u.oneCell'=true:=Qbv _ _ _ _
def Arw.av (x:Arw):Arv:=⟨x.ar,.slice x.va x.vn x.vc⟩
theorem QDq (gs:List Arw):(gs.map Arw.av).flatMap AvC=gs.flatMap ArC:=by
 rw[List.flatMap_map]
 rfl
def aw0:Arw:=⟨⟨prt0,0,0,0,QaH⟩,none,0,0⟩
theorem QDe:(Tryz.prog.info? 114).map (fun i=>(i.zero,i.size,i.bytes))=some (some (.agg (ArC aw0).toArray),24,96):=by kernel_rfl
def AwOk (w:World) (base:Nat) (g:Arw):Prop:=OwnB w base g.va g.vn g.vc g.ar.pt.da
theorem AwOk.av {w:World} {base:Nat} {g:Arw} (h:AwOk w base g):AvOk w g.av:=⟨g.va,g.vn,g.vc,rfl,h.cap,h.rd⟩
def swp {α:Type} (d:α) (l:List α) (j:Nat):List α:=(l.set (j+1) (l.getD j d)).set j (l.getD (j+1) d)
def sink {α:Type} (key:α→Int) (d:α) (l:List α):Nat→List α
 | 0=>l
 | j+1=>if key (l.getD (j+1) d)<key (l.getD j d) then sink key d (swp d l j) j else l
def srt {α:Type} (key:α→Int) (d:α) (l:List α):Nat→List α
 | 0=>l
 | k+1=>sink key d (srt key d l k) (k+1)
section
variable {α:Type} {key:α→Int} {d:α} {l:List α}
theorem Qf6 (j:Nat):(swp d l j).length=l.length:=by rw[swp,QGV,QGV]
theorem QCa {j:Nat} (hj:j+1<l.length):∀x∈swp d l j,x∈l:=by
 intro x hx
 have g:∀i,i<l.length→l.getD i d∈l:=fun i hi=>by
  rw[QGq,QGt hi]
  exact QHi _
 rcases List.mem_or_eq_of_mem_set hx with hx|rfl
 ·rcases List.mem_or_eq_of_mem_set hx with hx|rfl
  ·exact hx
  ·exact g j (by omega)
 ·exact g (j+1) hj
theorem Qjk:∀(j:Nat) (l:List α),(sink key d l j).length=l.length
 | 0,_=>rfl
 | j+1,l=>by
   rw[sink]
   split
   ·rw[Qjk j,Qf6]
   ·rfl
theorem Qq4:∀(j:Nat) (l:List α),j<l.length→∀x∈sink key d l j,x∈l
 | 0,_,_,x,hx=>hx
 | j+1,l,hj,x,hx=>by
   rw[sink]at hx
   split at hx
   ·exact QCa hj x (Qq4 j _ (by rw[Qf6];omega) x hx)
   ·exact hx
theorem Qdq:∀k:Nat,(srt key d l k).length=l.length
 | 0=>rfl
 | k+1=>by rw[srt,Qjk,Qdq k]
theorem QtR:∀k:Nat,k<l.length→∀x∈srt key d l k,x∈l
 | 0,_,x,hx=>hx
 | k+1,h,x,hx=>QtR k (by omega) x (Qq4 (k+1) _ (by rw[Qdq];exact h) x hx)
theorem Qw3 (x:α) (l:List α) (j:Nat):swp d (x :: l) (j+1)=x :: swp d l j:=by simp[swp]
theorem Qq7:∀(j:Nat) (l:List α),j+1<l.length→(swp d l j).Perm l
 | _,[],h=>by simp at h
 | _,[_],h=>by simp at h
 | 0,a :: b :: t,_=>List.Perm.swap a b t
 | j+1,x :: y :: l,h=>by
   rw[Qw3]
   exact (Qq7 j (y :: l) (by simpa using h)).cons x
theorem Qn2:∀(j:Nat) (l:List α),j<l.length→(sink key d l j).Perm l
 | 0,_,_=>List.Perm.refl _
 | j+1,l,hj=>by
   rw[sink]
   split
   ·exact (Qn2 j _ (by rw[Qf6];omega)).trans (Qq7 j l hj)
   ·exact List.Perm.refl _
theorem Ql9:∀k:Nat,k<l.length→(srt key d l k).Perm l
 | 0,_=>List.Perm.refl _
 | k+1,h=>(Qn2 (k+1) _ (by rw[Qdq];exact h)).trans (Ql9 k (by omega))
theorem Qhm {j:Nat} (h: ¬key (l.getD (j+1) d)<key (l.getD j d)):sink key d l (j+1)=l:=by rw[sink,if_neg h]
theorem QgW {j:Nat} (h:key (l.getD (j+1) d)<key (l.getD j d)):sink key d l (j+1)=sink key d (swp d l j) j:=by rw[sink,if_pos h]
end
def awK (x:Arw):Int:=x.ar.tk
def cmpI (a b:Int):Int:=if a<b then -1 else if b<a then 1 else 0
theorem QxY (a b:Int):decide (cmpI a b<0)=decide (a<b):=by
 unfold cmpI
 split
 ·simp_all
 ·split<;>simp_all
theorem QyY (x:Arw):(ArC x)[7]?=some (.int .i64 x.ar.tk):=rfl
theorem QzH (qs:List Arw) (rest:List Value) {j:Nat} (hj:j<qs.length):∀i v,(ArC (qs.getD j aw0))[i]?=some v→(qs.flatMap ArC++rest)[j*24+i]?=some v:=by
 intro i v hv
 have h:=QeY QbV aw0 qs j hj hv
 rw[QGG (QGL.1 h).1]
 exact h
theorem QxS (x y:Arw) (w:World):Calls Tryz.prog 85 #[.agg (ArC x).toArray,.agg (ArC y).toArray] w fun e w'=>e= .returned (.int .i64 (cmpI x.ar.tk y.ar.tk))∧Later w w':=by
 have C1:=Qbk w 114 (ArC x)
 have C2:Bag w ((w.alloc (.cells (ArC x).toArray 114)).alloc (.cells (ArC y).toArray 114)) [(w.heap.size+1,114,ArC y),(w.heap.size,114,ArC x)]:=
  C1.add (Qaa _ _) (by simp) (by omega) (Blk.new' _ _ (ArC y) (by simp))
 have a1:=(C2.nth 1 rfl).cellD 7 (QyY x)
 have a2:=(C2.nth 0 rfl).cellD 7 (QyY y)
 have hv:cmpI x.ar.tk y.ar.tk=if x.ar.tk<y.ar.tk then -1 else if y.ar.tk<x.ar.tk then 1 else 0:=rfl
 by_cases h1:x.ar.tk<y.ar.tk
 ·have f1:decide (x.ar.tk<y.ar.tk)=true:=decide_eq_true h1
  rw[if_pos h1]at hv
  replace hv:=hid hv
  go_enter Tryz.func85,Tryz.ntmps85
  go_wp2_with fail
  go_ret
  exact⟨by rw[hv.out];rfl,C2.lat⟩
 ·have f1:decide (x.ar.tk<y.ar.tk)=false:=decide_eq_false h1
  rw[if_neg h1]at hv
  by_cases h2:y.ar.tk<x.ar.tk
  ·have f2:decide (y.ar.tk<x.ar.tk)=true:=decide_eq_true h2
   rw[if_pos h2]at hv
   replace hv:=hid hv
   go_enter Tryz.func85,Tryz.ntmps85
   go_wp2_with fail
   go_ret
   exact⟨by rw[hv.out];rfl,C2.lat⟩
  ·have f2:decide (y.ar.tk<x.ar.tk)=false:=decide_eq_false h2
   rw[if_neg h2]at hv
   replace hv:=hid hv
   go_enter Tryz.func85,Tryz.ntmps85
   go_wp2_with fail
   go_ret
   exact⟨by rw[hv.out];rfl,C2.lat⟩
theorem Qqv {P:Program} {C:World→Prop} {a:Act} {o:Oper} {K:Act→Prop} {t t':TypeId} (x y:Operand) (ho:o.op= .binOp .sub t x y t') (v:Value) (hv:∀w,(binOp .sub t (a.eval x) (a.eval y)).run P w= .ok v w)
 (h:K (a.put o.dst v)):o.quiet P a C K:=
 ⟨v,fun w _=>by
   unfold Oper.quietAt execOp
   simp[ho,hv,eqGuard]
   exact⟨rfl,rfl⟩,h⟩
set_option maxRecDepth 100000 in
set_option maxHeartbeats 4000000 in
theorem QvK (base g n c:Nat) (qs:List Arw) (w:World) (hown:w.ownsRow base 114 24 (.slice (some ⟨g,0,none⟩) n c) n (qs.flatMap ArC)) (hql:qs.length=n) (hn:n≤1048576):
 Calls Tryz.prog 152 #[.slice (some ⟨g,0,none⟩) n c,.int .i64 0,.int .i64 n,.func (.func 85) #[] #[]] w fun e w'=>e= .returned (.tuple #[])∧
  w'.ownsRow base 114 24 (.slice (some ⟨g,0,none⟩) n c) n ((srt awK aw0 qs (n-1)).flatMap ArC)∧Only g w w':=by
 have hS:∀k,(srt awK aw0 qs k).length=n:=fun k=>by rw[Qdq,hql]
 have hS1:Hid (∀ k,srt awK aw0 qs (k+1)=sink awK aw0 (srt awK aw0 qs k) (k+1)):=hid (fun _=>rfl)
 have hS0:Hid (srt awK aw0 qs 0=qs):=hid rfl
 have hC:=hid (fun x y w=>QxS x y w)
 generalize srt awK aw0 qs=S at *
 go_enter Tryz.func152,Tryz.ntmps152
 go_wp2_with fail
 go_loopw [8] (fun iv wr=>∃k:Nat,iv= .int .i64 ((k:Int)+1)∧k≤n-1∧wr.ownsRow base 114 24 (.slice (some ⟨g,0,none⟩) n c) n ((S k).flatMap ArC)∧Only g w wr) (fun iv _=>n-(intOf iv).toNat)
 case atStart=>exact⟨0,rfl,by omega,by rw[hS0.out];exact hown,World.grownBy.refl _ _⟩
 case round=>
  clear hown
  obtain⟨k,rfl,hk,hown,hO⟩:=hrel
  by_cases hlt:k+1<n
  ·have f1:decide ((k:Int)+1<(n:Int))=true:=decide_eq_true (by omega)
   have hT:=hid (hS1.out k)
   generalize hSk1:S (k+1)=T at hT
   replace hTd:Hid (T=S (k+1)):=hid hSk1.symm
   clear hSk1
   generalize hSk:S k=C0 at *
   have hC0:C0.length=n:=by rw[←hSk];exact hS k
   clear hSk
   go_wp2_with fail
   go_loopw [9] (fun jv wq=>∃(j:Nat) (cur:List Arw),jv= .int .i64 j∧j<n∧cur.length=n∧wq.ownsRow base 114 24 (.slice (some ⟨g,0,none⟩) n c) n (cur.flatMap ArC)∧Hid (T=sink awK aw0 cur j)∧Only g w wq) (fun jv _=>(intOf jv).toNat)
   case atStart=>exact⟨k+1,C0,by go_num,hlt,hC0,hown,hT,hO⟩
   case round=>
    clear hown hO hT hC0
    obtain⟨j,cur,rfl,hj,hcl,hown,hT,hO⟩:=hrel
    rcases j with _|j
    ·have hT0:=hid (show T=cur from hT.out)
     clear hT
     go_wp2_with fail
     refine Qaf [([0,1,2,3,4,5,6,7,8,9,10,11,12,13],14)] [15,16] [] (by as_aux_lemma=>kernel_rfl) (by as_aux_lemma=>kernel_rfl) (by intro _ _ d _ _ h;cases d<;>exact h) ?_
     simp only[Qaj,pick,QGo,QGp,QGs,QGu,QGv]
     repeat (go_big_quiet_step (fail))
     refine wpQuiet_nil ?_
     go_wp2_with fail
     try refine⟨by first|assumption|exact Qab _|exact Qaa _ _|exact Later.refl _,?_⟩
     try simp only[Qaj,pick,QGo,QGp,QGs,QGu,QGv]
     repeat (go_big_quiet_step (fail))
     refine wpQuiet_nil ?_
     go_wp2_with fail
     exact⟨⟨k+1,by go_num,by omega,by rw[←hTd.out,hT0.out];exact QaB hown (Qab _),hO.later (Qab _)⟩,by simp[intOf];omega⟩
    ·have s1:=hid (fun h=>hT.out.trans (Qhm (key:=awK) (d:=aw0) (l:=cur) (j:=j) (Int.not_lt.2 h)))
     have s2:=hid (fun h=>hT.out.trans (QgW (key:=awK) (d:=aw0) (l:=cur) (j:=j) h))
     obtain⟨g',rest,hg',hbg,hB,hnc,hcm,hbl⟩:=Qf3 hown (by omega)
     obtain rfl:g=g':=by simpa using hg'
     have at1:=QzH cur rest (j:=j+1) (by omega)
     have at0:=QzH cur rest (j:=j) (by omega)
     have hsw:swp aw0 cur j=(cur.set (j+1) (cur.getD j aw0)).set j (cur.getD (j+1) aw0):=rfl
     simp only[awK]at s1 s2
     generalize swp aw0 cur j=SW at *
     generalize cur.getD (j+1) aw0=X at *
     generalize cur.getD j aw0=Z at *
     replace hsw:=hid hsw
     go_wp2_with fail
     refine Qaf [([0,1,2,3,4,5,6,7,8,9,10,11,12,13],14)] [15,16] [] (by as_aux_lemma=>kernel_rfl) (by as_aux_lemma=>kernel_rfl) (by intro _ _ d _ _ h;cases d<;>exact h) ?_
     simp only[Qaj,pick,QGo,QGp,QGs,QGu,QGv]
     repeat (first|go_big_quiet_skip|(go_big_quiet_want;(first|refine Qe7 _ _ rfl ((j+1)*24) (ArC X) hB.drew rfl at1 _ Tryz.underlying114 rfl (by rw[QbV];exact QaN) ?_|refine Qe7 _ _ rfl (j*24) (ArC Z) hB.drew rfl at0 _ Tryz.underlying114 rfl (by rw[QbV];exact QaN) ?_);simp only[Act.put,QGw,QGB,QGz];go_big_quiet_on)|(go_big_quiet_step (fail)))
     refine wpQuiet_nil ?_
     go_wp2_with fail
     refine (hC.out _ _ _).mono ?_
     rintro e w2 ⟨rfl,j2⟩
     have hcn:=QxY X.ar.tk Z.ar.tk
     generalize cmpI X.ar.tk Z.ar.tk=CI at *
     have l2:=(Qab wr).trans j2
     have hB2:=hB.later l2
     have own2:=QaB hown l2
     have O2:=hO.later l2
     by_cases hcmp:X.ar.tk<Z.ar.tk
     ·rw[decide_eq_true hcmp]at hcn
      have hT2:=hid (s2.out hcmp)
      have hsb:∀w,(binOp .sub 3 (.int .i64 ((j:Int)+1)) (.int .i64 1)).run Tryz.prog w= .ok (.int .i64 (j:Int)) w:=fun w=>by
       have h2:j+1<n:=hj
       simp[go_sem,IntKind.wrap_i64]
       omega
      have hi1:∀w,(Instr.indexAt 132 (.slice (some ⟨g,0,none⟩) n c) (.int .i64 ((j:Int)+1))).run Tryz.prog w= .ok (.pointer (some ⟨g,(j+1)*24,none⟩)) w:=fun w=>by
       have h2:j+1<n:=hj
       simp[go_sem]
       intro h
       omega
      have hi0:∀w,(Instr.indexAt 132 (.slice (some ⟨g,0,none⟩) n c) (.int .i64 (j:Int))).run Tryz.prog w= .ok (.pointer (some ⟨g,j*24,none⟩)) w:=fun w=>by
       have h2:j+1<n:=hj
       simp[go_sem]
       intro h
       omega
      clear s1 s2
      go_wp2_with fail
      try refine⟨by first|assumption|exact Qab _|exact Qaa _ _|exact Later.refl _,?_⟩
      try simp only[Qaj,pick,QGo,QGp,QGs,QGu,QGv]
      repeat (go_big_quiet_step (fail))
      refine wpQuiet_nil ?_
      go_wp2_with fail
      refine Qdv [0,1,2,3,4,5,6,7,8,9,10,11,12,13,14] [15,16,17] (fun i=>if i=9∨i=13 then [] else [15,16,17]) (fun _=>g) (by as_aux_lemma=>kernel_rfl) (by as_aux_lemma=>kernel_rfl) (by intro _ _ d _ _ h;cases d<;>exact h) ?_
      refine⟨_,rfl,rfl,?_⟩
      refine Qel _ (.slice (some ⟨g,0,none⟩) n c) rfl rfl ?_
      simp only[Act.put,QGw,QGB,QGz]
      refine⟨_,rfl,rfl,?_⟩
      refine Qel _ (.int .i64 ((j:Int)+1)) rfl rfl ?_
      simp only[Act.put,QGw,QGB,QGz]
      refine⟨_,rfl,rfl,?_⟩
      refine Qel _ (.slice (some ⟨g,0,none⟩) n c) rfl rfl ?_
      simp only[Act.put,QGw,QGB,QGz]
      refine⟨_,rfl,rfl,?_⟩
      refine Qel _ (.int .i64 ((j:Int)+1)) rfl rfl ?_
      simp only[Act.put,QGw,QGB,QGz]
      refine⟨_,rfl,rfl,?_⟩
      refine Qqv _ _ rfl _ hsb ?_
      simp only[Act.put,QGw,QGB,QGz]
      refine⟨_,rfl,rfl,?_⟩
      refine Qel _ (.slice (some ⟨g,0,none⟩) n c) rfl rfl ?_
      simp only[Act.put,QGw,QGB,QGz]
      refine⟨_,rfl,rfl,?_⟩
      refine Qel _ (.int .i64 ((j:Int)+1)) rfl rfl ?_
      simp only[Act.put,QGw,QGB,QGz]
      refine⟨_,rfl,rfl,?_⟩
      refine Qqv _ _ rfl _ hsb ?_
      simp only[Act.put,QGw,QGB,QGz]
      refine⟨_,rfl,rfl,?_⟩
      refine QlL _ _ rfl _ hi0 ?_
      simp only[Act.put,QGw,QGB,QGz]
      refine⟨_,rfl,rfl,?_⟩
      refine Qjh _ _ rfl (j*24) (ArC Z) hB2 (by simp) rfl at0 _ Tryz.underlying114 rfl (by rw[QbV];exact QaN) ?_
      simp only[Act.put,QGw,QGB,QGz]
      refine⟨_,rfl,rfl,?_⟩
      refine Qel _ (.slice (some ⟨g,0,none⟩) n c) rfl rfl ?_
      simp only[Act.put,QGw,QGB,QGz]
      refine⟨_,rfl,rfl,?_⟩
      refine Qel _ (.int .i64 ((j:Int)+1)) rfl rfl ?_
      simp only[Act.put,QGw,QGB,QGz]
      refine⟨_,rfl,rfl,?_⟩
      refine QlL _ _ rfl _ hi1 ?_
      simp only[Act.put,QGw,QGB,QGz]
      refine⟨_,rfl,rfl,?_⟩
      refine Qjh _ _ rfl ((j+1)*24) (ArC X) hB2 (by simp) rfl at1 _ Tryz.underlying114 rfl (by rw[QbV];exact QaN) ?_
      simp only[Act.put,QGw,QGB,QGz]
      refine⟨_,rfl,rfl,?_⟩
      refine QlL _ _ rfl _ hi1 ?_
      simp only[Act.put,QGw,QGB,QGz]
      simp only[QjL,QgC,pick,QGo,QGp,QGs,QGu,QGv]
      refine Qbs QbV QlR aw0 rfl rfl _ _ _ rfl (QaB own2 (Qab _)) hcl (j+1) hj Z rfl rfl QaN ?_
      intro v1 own3 ho1
      refine⟨ho1,?_⟩
      go_wp2_with fail
      refine⟨World.grownBy.refl _ _,?_⟩
      refine Qbs QbV QlR aw0 rfl rfl _ _ _ rfl own3 (by rw[QGV];exact hcl) j (by omega) X rfl rfl QaN ?_
      intro v2 own4 ho2
      refine⟨ho2,?_⟩
      go_wp2_with fail
      exact⟨⟨j,SW,by go_num,by omega,by rw[hsw.out,QGV,QGV,hcl],by rw[hsw.out];exact own4,hT2,((O2.later (Qab _)).trans ho1).trans ho2⟩,by simp[intOf]⟩
     ·rw[decide_eq_false hcmp]at hcn
      have hT2:=hid (s1.out (Int.not_lt.1 hcmp))
      clear s1 s2
      go_wp2_with fail
      try refine⟨by first|assumption|exact Qab _|exact Qaa _ _|exact Later.refl _,?_⟩
      try simp only[Qaj,pick,QGo,QGp,QGs,QGu,QGv]
      repeat (go_big_quiet_step (fail))
      refine wpQuiet_nil ?_
      go_wp2_with fail
      exact⟨⟨k+1,by go_num,by omega,by rw[←hTd.out,hT2.out];exact own2,O2⟩,by simp[intOf];omega⟩
  ·have hkn:Hid (k=n-1):=hid (by omega)
   have f1:decide ((k:Int)+1<(n:Int))=false:=decide_eq_false (by omega)
   go_wp2_with fail
   exact bodyPost_end (results_none rfl _ _ _) rfl ⟨rfl,by rw[←hkn.out];exact hown,hO⟩
set_option maxRecDepth 100000 in
set_option maxHeartbeats 4000000 in
theorem QsS (base g n c:Nat) (qs:List Arw) (w:World) (hown:w.ownsRow base 114 24 (.slice (some ⟨g,0,none⟩) n c) n (qs.flatMap ArC)) (hql:qs.length=n) (hn:n<20):
 Calls Tryz.prog 121 #[.slice (some ⟨g,0,none⟩) n c,.int .i64 n,.func (.func 85) #[] #[]] w fun e w'=>e= .returned (.tuple #[])∧
  w'.ownsRow base 114 24 (.slice (some ⟨g,0,none⟩) n c) n ((srt awK aw0 qs (n-1)).flatMap ArC)∧Only g w w':=by
 have f1:decide ((20:Int)≤(n:Int))=false:=decide_eq_false (by omega)
 have f2:decide ((20:Int)<(n:Int))=false:=decide_eq_false (by omega)
 have hI:=hid (QvK base g n c qs w hown hql (by omega))
 go_enter Tryz.func121,Tryz.ntmps121
 go_wp2_with fail
 go_loopw [7,8] (fun v7 v8 wr=>v7= .int .i64 0∧v8= .int .i64 20∧wr=w) (fun _ _ _=>0)
 case atStart=>exact⟨rfl,rfl,rfl⟩
 case round=>
  obtain⟨rfl,rfl,rfl⟩:=hrel
  go_wp2_with fail
  refine hI.out.mono ?_
  rintro e w1 ⟨rfl,own1,ho1⟩
  go_wp2_with fail
  go_loopw [6] (fun v6 wr=>v6= .int .i64 20∧wr=w1) (fun _ _=>0)
  case atStart=>exact⟨rfl,rfl⟩
  case round=>
   obtain⟨rfl,rfl⟩:=hrel
   go_wp2_with fail
   exact bodyPost_end (results_none rfl _ _ _) rfl ⟨rfl,own1,ho1⟩
set_option maxRecDepth 100000 in
theorem Qxf (base g n c:Nat) (qs:List Arw) (w:World) (hown:w.ownsRow base 114 24 (.slice (some ⟨g,0,none⟩) n c) n (qs.flatMap ArC)) (hql:qs.length=n) (hn:n<20):
 Calls Tryz.prog 84 #[.slice (some ⟨g,0,none⟩) n c,.func (.func 85) #[] #[]] w fun e w'=>e= .returned (.tuple #[])∧
  w'.ownsRow base 114 24 (.slice (some ⟨g,0,none⟩) n c) n ((srt awK aw0 qs (n-1)).flatMap ArC)∧Only g w w':=by
 have hI:=hid (QsS base g n c qs w hown hql hn)
 go_enter Tryz.func84,Tryz.ntmps84
 go_wp2_with fail
 refine hI.out.mono ?_
 rintro e w1 ⟨rfl,own1,ho1⟩
 go_wp2_with fail
 exact bodyPost_end (results_none rfl _ _ _) rfl ⟨rfl,own1,ho1⟩
set_option maxRecDepth 100000 in
theorem QvA (c:Nat) (w:World):Calls Tryz.prog 152 #[.slice none 0 c,.int .i64 0,.int .i64 0,.func (.func 85) #[] #[]] w fun e w'=>e= .returned (.tuple #[])∧w=w':=by
 go_enter Tryz.func152,Tryz.ntmps152
 go_wp2_with fail
 go_loopw [8] (fun v8 wr=>v8= .int .i64 1∧w=wr) (fun _ _=>0)
 case atStart=>exact⟨rfl,rfl⟩
 case round=>
  obtain⟨rfl,rfl⟩:=hrel
  go_wp2_with fail
  exact bodyPost_end (results_none rfl _ _ _) rfl ⟨rfl,rfl⟩
set_option maxRecDepth 100000 in
theorem Qro (c:Nat) (w:World):Calls Tryz.prog 121 #[.slice none 0 c,.int .i64 0,.func (.func 85) #[] #[]] w fun e w'=>e= .returned (.tuple #[])∧w=w':=by
 go_enter Tryz.func121,Tryz.ntmps121
 go_wp2_with fail
 go_loopw [7,8] (fun v7 v8 wr=>v7= .int .i64 0∧v8= .int .i64 20∧w=wr) (fun _ _ _=>0)
 case atStart=>exact⟨rfl,rfl,rfl⟩
 case round=>
  obtain⟨rfl,rfl,rfl⟩:=hrel
  go_wp2_with fail
  refine (QvA c w).mono ?_
  rintro e w1 ⟨rfl,rfl⟩
  go_wp2_with fail
  go_loopw [6] (fun v6 wr=>v6= .int .i64 20∧w=wr) (fun _ _=>0)
  case atStart=>exact⟨rfl,rfl⟩
  case round=>
   obtain⟨rfl,rfl⟩:=hrel
   go_wp2_with fail
   exact bodyPost_end (results_none rfl _ _ _) rfl ⟨rfl,rfl⟩
set_option maxRecDepth 100000 in
theorem QwW (c:Nat) (w:World):Calls Tryz.prog 84 #[.slice none 0 c,.func (.func 85) #[] #[]] w fun e w'=>e= .returned (.tuple #[])∧w=w':=by
 go_enter Tryz.func84,Tryz.ntmps84
 go_wp2_with fail
 refine (Qro c w).mono ?_
 rintro e w1 ⟨rfl,rfl⟩
 go_wp2_with fail
 exact bodyPost_end (results_none rfl _ _ _) rfl ⟨rfl,rfl⟩
theorem QCq:(Tryz.prog.info? 25).map (fun i=>(i.zero,i.size,i.bytes))=some (some (.agg (PvC pvz).toArray),5,56):=by kernel_rfl
set_option maxRecDepth 100000 in
theorem QrD (n:Nat) (hn:n≤7200) (w:World):Calls Tryz.prog 81 #[.int .i64 n] w fun e w'=>e= .returned (.tuple #[.int .i64 (QbN n:Nat),.int .i64 0])∧Later w w':=by
 have h1:decide ((n:Int)<0)=false:=decide_eq_false (by omega)
 have h2:decide ((7200:Int)<(n:Int))=false:=decide_eq_false (by omega)
 by_cases h0:n=0
 ·subst h0
  go_enter Tryz.func81,Tryz.ntmps81
  go_wp2_with fail
  go_ret2
  exact⟨rfl,Later.refl w⟩
 ·have h3:((n:Int)==0)=false:=beq_eq_false_iff_ne.2 (by omega)
  have h4:QbN n=(n+449)/450:=if_neg h0
  go_enter Tryz.func81,Tryz.ntmps81
  go_wp2_with fail
  rw[show ((n:Int)+450-1)/450=((QbN n:Nat):Int) by rw[h4];omega]
  go_ret2
  exact⟨rfl,Later.refl w⟩
theorem QrV (id:UInt64) (msg:List UInt8) (k:Nat) (h:k<QbN msg.length):(QdG id msg).take (k+1)=(QdG id msg).take k++[Qb7 id msg k]:=by
 unfold QdG
 rw[QIr,QGF,QHD h]
 rfl
theorem Qsh (id:UInt64) (msg:List UInt8):(QdG id msg).length=QbN msg.length:=by simp[QdG]
theorem Qtz (id:UInt64) (i N:Int) (A:Option Addr) (n c:Nat) (da:List UInt8):Tryz.prog.built 25 [(0,.int .u8 1),(1,W64 id),(2,.int .i64 i),(3,.int .i64 N),(4,.slice A n c)]=some (PaC ⟨1,id,i,N,da⟩ (.slice A n c)).toArray:=by kernel_rfl
theorem Qg8 {w:World} {A:Option Addr} {n:Nat} {bs:List UInt8} (h:RdB w A n bs) (k m:Nat) (hk:k*450≤n) (hm:m=min 450 (n-k*450)):RdB w (Option.map (fun x=>x.add (k*450)) A) m (Qa0 bs k):=by
 have hl:=h.len
 have h1:(Qa0 bs k).length=m:=by
  unfold Qa0
  rw[QGP,QGQ,hl,hm]
 refine⟨by rw[QGr,h1],fun h0=>?_⟩
 obtain⟨b,o,rfl,hb,hc⟩:=h.2 (by omega)
 refine⟨b,o+k*450,by simp[Addr.add],hb,fun j v hv=>?_⟩
 rw[QIO]
 refine hc (k*450+j) v ?_
 rw[QGF]at hv ⊢
 unfold Qa0 at hv
 rw[QHJ]at hv
 split at hv
 ·rwa [QHA]at hv
 ·cases hv
theorem QkP {w:World} {A:Option Addr} {n:Nat} {bs:List UInt8} (h:RdB w A n bs) (k:Nat) (hk:n=k*450):RdB w A (n-k*450) (Qa0 bs k):=by
 have hl:=h.len
 have h1:(Qa0 bs k).length=n-k*450:=by
  unfold Qa0
  rw[QGP,QGQ,hl]
  omega
 exact⟨by rw[QGr,h1],fun h0=>by omega⟩
set_option maxRecDepth 100000 in
set_option maxHeartbeats 4000000 in
theorem QrF (id:UInt64) (A:Option Addr) (n c:Nat) (bs:List UInt8) (w:World) (hb:RdB w A n bs) (hn:n≤7200) (hnc:n≤c):
 Calls Tryz.prog 45 #[W64 id,.slice A n c] w fun e w'=>∃(g:Nat) (Ps:List Pv),e= .returned (.tuple #[.slice (some ⟨g,0,none⟩) (QbN n) (QbN n),.int .i64 0])∧Ps.map Pv.p=QdG id bs∧
  w'.ownsRow w.heap.size 25 5 (.slice (some ⟨g,0,none⟩) (QbN n) (QbN n)) (QbN n) (Ps.flatMap PvC)∧(∀ q∈Ps,OwnB w' w.heap.size q.va q.vn q.vc q.p.da)∧Later w w':=by
 have hbl:=hb.len
 have hc16:=Qgh hn
 have hC:=hid (QrD n hn w)
 have hsg:=hid (fun k h=>QrV id bs k h)
 have hsl:=Qsh id bs
 rw[hbl]at hsl hsg
 have hsA:Hid (∀ k:Nat,Qb7 id bs k=⟨1,id,k,(QbN n:Nat),Qa0 bs k⟩):=hid (fun k=>by rw[Qb7,hbl])
 have hN450:∀k,k<QbN n→k*450≤n:=by
  intro k hk
  unfold QbN at hk
  split at hk<;>omega
 have hNk:∀k,k<QbN n→n=k*450→k=0:=by
  intro k hk he
  unfold QbN at hk
  split at hk<;>omega
 have hbu:=hid Qtz
 generalize QdG id bs=SP at *
 generalize QbN n=N at *
 go_enter Tryz.func45,Tryz.ntmps45
 go_wp2_with fail
 refine hC.out.mono ?_
 rintro e w1 ⟨rfl,j1⟩
 go_wp2_with (first
  | (refine Qg1 Qd5 (by omega) pvz rfl _ _ _ rfl 25 56 Tryz.underlying126 QCq _ _ _ _ N rfl rfl rfl rfl (by omega) (by omega) ?_;intro w2 hb2 hl2)
  | fail)
 have own0:=QqV (base:=w.heap.size) (sz:=5) (N:=N) hb2 j1.size (by rw[Qb4 Qd5,QGA]) (by unfold maxLen;omega)
 have L2:=j1.trans hl2
 generalize w1.heap.size=g at *
 clear hC hb2 hl2 j1
 go_loopw [25] (fun i wr=>∃(k:Nat) (Qs:List Pv),k≤N∧i= .int .i64 k∧Qs.length=N∧wr.ownsRow w.heap.size 25 5 (.slice (some ⟨g,0,none⟩) N N) N (Qs.flatMap PvC)∧Hid ((Qs.take k).map Pv.p=SP.take k)∧(∀ q∈Qs.take k,OwnB wr w.heap.size q.va q.vn q.vc q.p.da)∧Later w wr) (fun i _=>N-(intOf i).toNat)
 case atStart=>exact⟨0,QGn N pvz,by omega,rfl,QGA,own0,hid rfl,by simp,L2⟩
 case round=>
  clear own0 L2
  obtain⟨k,Qs,hk,rfl,hQl,hown,hQs,hQo,L⟩:=hrel
  by_cases hlt:k<N
  ·have hg:=hown.lt g rfl
   have h4:=hN450 k hlt
   by_cases hcz:c=k*450
   ·obtain rfl:k=0:=hNk k hlt (by omega)
    obtain rfl:c=0:=by omega
    obtain rfl:n=0:=by omega
    clear hcz h4
    go_wp2_with fail
    refine (Qe2 _ 0 _ (Qa0 bs 0) wr (QkP (hb.later L) 0 rfl) (by omega)).mono ?_
    rintro e w2 ⟨rfl,hb2,l2⟩
    have hpl:=(QkP (hb.later L) 0 rfl).len
    have ob2:OwnB w2 w.heap.size (some ⟨wr.heap.size,0,none⟩) 0 0 (Qa0 bs 0):=Qmi hb2 L.size (by rw[QGr,hpl]) (by omega)
    go_wp2_with (first
     | (refine Qah ?hw 25 _ rfl (PaC ⟨1,id,(0:Nat),N,Qa0 bs 0⟩ (.slice (some ⟨wr.heap.size,0,none⟩) 0 0)) (by simp only[QGC,QGR,QGH];exact hbu.out _ _ _ _ _ _ _) ?_;(case hw=>rfl))
     | (refine Qbs Qd5 Qol pvz rfl rfl _ _ _ rfl (QaB hown l2) hQl 0 hlt ⟨⟨1,id,(0:Nat),N,Qa0 bs 0⟩,some ⟨wr.heap.size,0,none⟩,0,0⟩ rfl rfl QdN ?_;intro w3 hown3 ho3)
     | fail)
    have hgt:∀ {b:Option Addr} {nn cc:Nat} {da:List UInt8},OwnB w2 w.heap.size b nn cc da→OwnB w3 w.heap.size b nn cc da:=fun h=>by
     obtain⟨g',r,hg',_,hB,_⟩:=Qf3 (QaB hown l2) (by omega)
     cases hg'
     exact QaV h hB (by decide) ho3
    have htk:(Qs.set 0 ⟨⟨1,id,(0:Nat),N,Qa0 bs 0⟩,some ⟨wr.heap.size,0,none⟩,0,0⟩).take (0+1)=Qs.take 0++[⟨⟨1,id,(0:Nat),N,Qa0 bs 0⟩,some ⟨wr.heap.size,0,none⟩,0,0⟩]:=by
     rw[QIr,List.take_set_of_le (by omega),QHS (by omega)]
     rfl
    refine⟨?_,by simp[intOf];omega⟩
    repeat apply Exists.intro
    refine⟨⟨0+1,Qs.set 0 ⟨⟨1,id,(0:Nat),N,Qa0 bs 0⟩,some ⟨wr.heap.size,0,none⟩,0,0⟩,by omega,by go_num,by rw[QGV,hQl],hown3,hid (by rw[htk,QG6,hQs.out,hsg.out 0 hlt,hsA.out];rfl),?_,(L.trans l2).only ho3 (hg.1)⟩,rfl⟩
    intro q hq
    rw[htk]at hq
    rcases QHd.1 hq with hq|hq
    ·exact hgt (QaF (hQo q hq) l2)
    ·obtain rfl:q=_:=QHO.1 hq
     exact hgt ob2
   go_wp2_with fail
   ·refine (Qe2 _ (n-k*450) _ (Qa0 bs k) wr (Qg8 (hb.later L) k (n-k*450) h4 (by omega)) (by omega)).mono ?_
    rintro e w2 ⟨rfl,hb2,l2⟩
    have hpl:=(Qg8 (hb.later L) k (n-k*450) h4 (by omega)).len
    have ob2:OwnB w2 w.heap.size (some ⟨wr.heap.size,0,none⟩) (n-k*450) (n-k*450) (Qa0 bs k):=Qmi hb2 L.size (by rw[QGr,hpl]) (by omega)
    go_wp2_with (first
     | (refine Qah ?hw 25 _ rfl (PaC ⟨1,id,k,N,Qa0 bs k⟩ (.slice (some ⟨wr.heap.size,0,none⟩) (n-k*450) (n-k*450))) (by simp only[QGC,QGR,QGH];exact hbu.out _ _ _ _ _ _ _) ?_;(case hw=>rfl))
     | (refine Qbs Qd5 Qol pvz rfl rfl _ _ _ rfl (QaB hown l2) hQl k hlt ⟨⟨1,id,k,N,Qa0 bs k⟩,some ⟨wr.heap.size,0,none⟩,(n-k*450),(n-k*450)⟩ rfl rfl QdN ?_;intro w3 hown3 ho3)
     | fail)
    have hgt:∀ {b:Option Addr} {nn cc:Nat} {da:List UInt8},OwnB w2 w.heap.size b nn cc da→OwnB w3 w.heap.size b nn cc da:=fun h=>by
     obtain⟨g',r,hg',_,hB,_⟩:=Qf3 (QaB hown l2) (by omega)
     cases hg'
     exact QaV h hB (by decide) ho3
    have htk:(Qs.set k ⟨⟨1,id,k,N,Qa0 bs k⟩,some ⟨wr.heap.size,0,none⟩,(n-k*450),(n-k*450)⟩).take (k+1)=Qs.take k++[⟨⟨1,id,k,N,Qa0 bs k⟩,some ⟨wr.heap.size,0,none⟩,(n-k*450),(n-k*450)⟩]:=by
     rw[QIr,List.take_set_of_le (by omega),QHS (by omega)]
     rfl
    refine⟨⟨k+1,Qs.set k ⟨⟨1,id,k,N,Qa0 bs k⟩,some ⟨wr.heap.size,0,none⟩,(n-k*450),(n-k*450)⟩,by omega,by go_num,by rw[QGV,hQl],hown3,hid (by rw[htk,QG6,hQs.out,hsg.out k hlt,hsA.out];rfl),?_,(L.trans l2).only ho3 (hg.1)⟩,by simp[intOf];omega⟩
    intro q hq
    rw[htk]at hq
    rcases QHd.1 hq with hq|hq
    ·exact hgt (QaF (hQo q hq) l2)
    ·obtain rfl:q=_:=QHO.1 hq
     exact hgt ob2
   ·refine (Qe2 _ (((k:Int)*450+450).toNat-k*450) _ (Qa0 bs k) wr (Qg8 (hb.later L) k (((k:Int)*450+450).toNat-k*450) h4 (by omega)) (by omega)).mono ?_
    rintro e w2 ⟨rfl,hb2,l2⟩
    have hpl:=(Qg8 (hb.later L) k (((k:Int)*450+450).toNat-k*450) h4 (by omega)).len
    have ob2:OwnB w2 w.heap.size (some ⟨wr.heap.size,0,none⟩) (((k:Int)*450+450).toNat-k*450) (((k:Int)*450+450).toNat-k*450) (Qa0 bs k):=Qmi hb2 L.size (by rw[QGr,hpl]) (by omega)
    go_wp2_with (first
     | (refine Qah ?hw 25 _ rfl (PaC ⟨1,id,k,N,Qa0 bs k⟩ (.slice (some ⟨wr.heap.size,0,none⟩) (((k:Int)*450+450).toNat-k*450) (((k:Int)*450+450).toNat-k*450))) (by simp only[QGC,QGR,QGH];exact hbu.out _ _ _ _ _ _ _) ?_;(case hw=>rfl))
     | (refine Qbs Qd5 Qol pvz rfl rfl _ _ _ rfl (QaB hown l2) hQl k hlt ⟨⟨1,id,k,N,Qa0 bs k⟩,some ⟨wr.heap.size,0,none⟩,(((k:Int)*450+450).toNat-k*450),(((k:Int)*450+450).toNat-k*450)⟩ rfl rfl QdN ?_;intro w3 hown3 ho3)
     | fail)
    have hgt:∀ {b:Option Addr} {nn cc:Nat} {da:List UInt8},OwnB w2 w.heap.size b nn cc da→OwnB w3 w.heap.size b nn cc da:=fun h=>by
     obtain⟨g',r,hg',_,hB,_⟩:=Qf3 (QaB hown l2) (by omega)
     cases hg'
     exact QaV h hB (by decide) ho3
    have htk:(Qs.set k ⟨⟨1,id,k,N,Qa0 bs k⟩,some ⟨wr.heap.size,0,none⟩,(((k:Int)*450+450).toNat-k*450),(((k:Int)*450+450).toNat-k*450)⟩).take (k+1)=Qs.take k++[⟨⟨1,id,k,N,Qa0 bs k⟩,some ⟨wr.heap.size,0,none⟩,(((k:Int)*450+450).toNat-k*450),(((k:Int)*450+450).toNat-k*450)⟩]:=by
     rw[QIr,List.take_set_of_le (by omega),QHS (by omega)]
     rfl
    refine⟨⟨k+1,Qs.set k ⟨⟨1,id,k,N,Qa0 bs k⟩,some ⟨wr.heap.size,0,none⟩,(((k:Int)*450+450).toNat-k*450),(((k:Int)*450+450).toNat-k*450)⟩,by omega,by go_num,by rw[QGV,hQl],hown3,hid (by rw[htk,QG6,hQs.out,hsg.out k hlt,hsA.out];rfl),?_,(L.trans l2).only ho3 (hg.1)⟩,by simp[intOf];omega⟩
    intro q hq
    rw[htk]at hq
    rcases QHd.1 hq with hq|hq
    ·exact hgt (QaF (hQo q hq) l2)
    ·obtain rfl:q=_:=QHO.1 hq
     exact hgt ob2
  ·obtain rfl:k=N:=by omega
   rw[QGD (by omega)]at hQs hQo
   have hQ2:=hQs.out
   rw[QGD (by omega)]at hQ2
   replace hQ2:=hid hQ2
   clear hQs
   go_wp2_with fail
   go_ret2
   exact⟨g,Qs,rfl,hQ2.out,hown,hQo,L⟩
end Go.Proofs.YtdhgpkdjdmlphaaGreat
