/-
  Lemmas for the last text of this claim (part 18 of 20).
-/
import Derived.ArgAppend
import Derived.BigQuiet
import Derived.BigRegion
import Derived.ChangeOld
import Derived.Deep.RegionWith
import Derived.DeepKeys4
import Derived.JoinedCond
import Derived.LaidMore
import Derived.Laws.CopyOwn
import Derived.Laws.Externs
import Derived.Laws.IdiomStrings
import Derived.Laws.Tables
import Derived.Lib.AppendStr
import Derived.Lib.AppendZerosOnto
import Derived.Lib.Mul64
import Derived.Lib.SlBytesConst
import Derived.LoopN
import Derived.Maps.OwnSet
import Derived.OpenShut
import Derived.OrdersHeld
import Derived.ProofKit
import Derived.Shelf.Spec.BitsCarry
import Derived.ShutString
import Derived.Test.YtdkpcdgckgaklaaGreatProg
import Derived.Test.YtdkpcdgckgaklaaGreatRows
import Derived.WalkKit
import Derived.WalkLawsBesides
import Derived.WalkSpells
import Derived.Test.YtdkpcdgckgaklaaGreatPJ
import Derived.Test.YtdkpcdgckgaklaaGreatPK
import Derived.Test.YtdkpcdgckgaklaaGreatPN
import Derived.Test.YtdkpcdgckgaklaaGreatPO
import Derived.Test.YtdkpcdgckgaklaaGreatPQ
open Bool renaming and_eq_true → QCG, eq_iff_iff → QDb
open List renaming replicate → QCn, getElem?_cons_succ → QCo, getElem?_cons_zero → QCp, cons_append → QCr, nil_append → QCs, length_map → QCt, getD_eq_getElem?_getD → QCu, getElem?_eq_getElem → QCv, setIfInBounds_toArray → QCw, set_cons_zero → QCy, set_cons_succ → QCz, map_toArray → QCA, map_nil → QCC, getElem?_append_left → QCD, take_of_length_le → QCE, getElem?_append_right → QCF, getElem?_map → QCH, length_replicate → QCJ, getElem?_eq_some_iff → QCK, append_assoc → QCL, mem_cons → QCQ, map_cons → QCR, not_mem_nil → QCT, append_nil → QC1, map_append → QC6, mem_map → QC7, mem_append → QDc, drop_of_length_le → QDf, drop_left' → QDg, flatMap_cons → QDi, getElem_mem → QDn, mem_singleton → QDH, flatMap_append → QDZ, getElem?_replicate → QD4, take_left' → QD9, length_singleton → QEd, drop_append → QEh, take_zero → QEm, flatMap_nil → QEu
open Nat renaming le_refl → QCx, zero_add → QCI, le_trans → QC4, le_of_eq → QDR
open Option renaming toList_some → QCq, bind_some → QDF
set_option linter.all false
namespace Go.Proofs.YtdkpcdgckgaklaaGreat
open Go.RowKit
open Go.BigFrame
structure Arw where
 ar:Arr
 va:Option Addr
 vn:Nat
 vc:Nat
def ArC (x:Arw):List Value:=AvC ⟨x.ar,.slice x.va x.vn x.vc⟩
theorem QaK (x:Arw):(ArC x).length=24:=Qak _
abbrev az0:List Value:=[.int .u8 0,.int .u64 0,.int .i64 0,.int .i64 0,.slice none 0 0,.int .u8 0,.int .u64 0,.int .i64 0,.int .u8 0,.int .u8 0,.int .u8 0,.int .u8 0,.int .u8 0,.int .u8 0,.int .u8 0,.int .u8 0,.int .u8 0,.int .u8 0,.int .u8 0,.int .u8 0,.int .u8 0,.int .u8 0,.int .u8 0,.int .u8 0]
theorem QeO {P:Program} {o:Oper} {a:Act} {J:Act→Prop} (ty:TypeId) (x:Operand) (ho:o.op= .load ty x) {w0:World} {g:Nat} {t:TypeId} {l:List Value} (off:Nat) (vs:List Value) (hb:Blk w0 g t l) (hx:a.eval x= .pointer (some ⟨g,off,none⟩))
 (hv:∀j v,vs[j]?=some v→l[off+j]?=some v) (d:TypeDesc) (hu:P.underlying ty=some d) (hd:QbH d=true) (hi:(P.info? ty).map (·.size)=some vs.length) (h:J (a.put o.dst (.agg vs.toArray))):o.quiet P a (fun w'=>∃x,w'=grow w0 x) J:=
 QaN _ x ho g off vs (fun _ hw j v hv'=>by obtain⟨y,rfl⟩:=hw;exact (hb.later ⟨y,rfl⟩).cellD _ (hv j v hv')) hx d hu hd hi h
theorem Qor (ar:Arr) (v:Value):∀(j:Nat) u,(PaC ar.pt v)[j]?=some u→(AvC ⟨ar,v⟩)[0+j]?=some u:=by
 intro j u hu
 rw[QCI]
 have hl:=(QCK.1 hu).1
 rw[AvC,QCD hl]
 exact hu
theorem Qkf:(Tryz.prog.info? 35).map (·.size)=some 16:=by kernel_rfl
theorem Qa0:(Tryz.prog.info? 37).map (·.size)=some 24:=by kernel_rfl
theorem QaP (ar:Arr) (A:Option Addr) (n c:Nat):∀u∈AvC ⟨ar,.slice A n c⟩,u.oneCell'=true:=by
 intro u hu
 rcases QDc.1 hu with hu|hu
 ·exact Qgi _ rfl u hu
 ·simp only[QCQ,QC7]at hu
  rcases hu with rfl|rfl|rfl|⟨b,_,rfl⟩<;>rfl
def ar9:Arr:=⟨⟨1,5,0,1,[9]⟩,2,3,7,QaV⟩
theorem QB7:ltrs [ar9] 1=[⟨3,5,7,[9]⟩]:=by rfl
theorem Qng (x:Arv) (h:x.va.oneCell'=true):∀u∈AvC x,u.oneCell'=true:=by
 intro u hu
 rcases QDc.1 hu with hu|hu
 ·exact Qgi _ h u hu
 ·simp only[QCQ,QC7]at hu
  rcases hu with rfl|rfl|rfl|⟨b,_,rfl⟩<;>rfl
theorem Qg0:(Tryz.prog.info? 37).map (·.size)=some 24:=by kernel_rfl
theorem Qy0 {w:World} {g g':Nat} {t t':TypeId} {l l':List Value} (h:Blk w g t l) (h':Blk w g' t' l') (hne:t≠t'):g≠g':=by
 rintro rfl
 have:=h.symm.trans h'
 simp only[Option.some.injEq,Obj.cells.injEq]at this
 exact hne this.2.1
def pv0:List Value:=QCn 16 (.slice none 0 0)
theorem QzM:(Tryz.prog.info? 74).bind (·.zero)=some (.agg (MsC 0 [] pv0).toArray):=by kernel_rfl
theorem Qux (a:UInt64):Tryz.prog.built 74 [(0,W64 a)]=some (MsC a [] pv0).toArray:=by
 rw[QaO (pl:=[(0,1),(1,1),(2,1),(3,16),(19,16)]) Tryz.underlying74 QzM (by kernel_rfl),QaS (vs:=[W64 a]) (off:=0) rfl rfl (by rw[QjV _ _ _ (by simp[pv0])];simp),QbM]
 rfl
theorem QzF:(Tryz.prog.info? 52).map (fun i=>(i.zero,i.size,i.bytes))=some (some (.agg (LtC lv0).toArray),4,48):=by kernel_rfl
theorem Qxn:(Tryz.prog.info? 52).map (fun i=>(i.zero,i.size))=some (some (.agg (LtC lv0).toArray),4):=by kernel_rfl
theorem QrF:(Tryz.prog.info? 34).map (fun i=>(i.zero,i.size))=some (some (.agg (PaC prt0 (.slice none 0 0)).toArray),5):=by kernel_rfl
theorem Qzh:(Tryz.prog.info? 52).bind (·.zero)=some (.agg (LtC lv0).toArray):=by kernel_rfl
theorem Qug (y:Ltv):Tryz.prog.built 52 [(0,W64 y.lt.to),(1,W64 y.lt.id),(2,.int .i64 y.lt.tk),(3,.slice y.va y.vn y.vc)]=some (LtC y).toArray:=by
 rw[QaO (pl:=[(0,1),(1,1),(2,1),(3,1)]) Tryz.underlying52 Qzh (by kernel_rfl),QaS (vs:=[W64 y.lt.to]) (off:=0) rfl rfl (by simp[LtC]),QaS (vs:=[W64 y.lt.id]) (off:=1) rfl rfl (by simp[LtC,Qau]),
  QaS (vs:=[.int .i64 y.lt.tk]) (off:=2) rfl rfl (by simp[LtC,Qau]),QaS (vs:=[.slice y.va y.vn y.vc]) (off:=3) rfl rfl (by simp[LtC,Qau]),QbM]
 rfl
theorem Qet {w:World} {g:Nat} {t:TypeId} {ar:Arr} {v:Value} (h:Blk w g t (AvC ⟨ar,v⟩)):w.cell? ⟨g,5,none⟩=some (W8 ar.kd)∧w.cell? ⟨g,6,none⟩=some (W64 ar.to)∧w.cell? ⟨g,7,none⟩=some (.int .i64 ar.tk)∧w.cell? ⟨g,0,none⟩=some (W8 ar.pt.kd)∧w.cell? ⟨g,1,none⟩=some (W64 ar.pt.id):=
 ⟨h.cellD 5 rfl,h.cellD 6 rfl,h.cellD 7 rfl,h.cellD 0 rfl,h.cellD 1 rfl⟩
theorem QjC {w:World} {g:Nat} {t:TypeId} {ar:Arr} {v:Value} (h:Blk w g t (AvC ⟨ar,v⟩)):∀(j:Nat) u,(PaC ar.pt v)[j]?=some u→w.cell? ⟨g,0+j,none⟩=some u:=by
 intro j u hu
 rw[QCI]
 refine h.cellD j ?_
 have hl:=(QCK.1 hu).1
 rw[AvC,QCD hl]
 exact hu
theorem QwU (w:World) (base:Nat) (id:UInt64) (hb:base≤w.heap.size):MsgAt (w.alloc (.cells (MsC id [] pv0).toArray 74)) base w.heap.size id [] pv0:=by
 refine⟨Blk.new w _ _,hb,by simp[pv0],fun i v hv=>.inl ⟨?_,rfl⟩⟩
 rw[pv0,QD4]at hv
 split at hv
 ·exact (Option.some.inj hv).symm
 ·cases hv
theorem QoF (w:World):(zeroValue 70).run Tryz.prog w= .ok (.pointer none) w:=by kernel_rfl
set_option maxRecDepth 100000 in
set_option maxHeartbeats 4000000 in
theorem Qms (A:Option Addr) (n c:Nat) (xs:List Arv) (w:World) (hx:RdF AvC 24 av0 w A n xs) (hok:∀x∈xs,AvOk w x) (hn:n≤1048576):
 Calls Tryz.prog 9 #[.slice A n c] w fun e w'=>∃v ys,e= .returned v∧(∃ bm k f K,LSt w w' bm k f K v ys)∧ys.map (·.lt)=ltrs (xs.map (·.ar)) n:=by
 have hxl:=hx.1
 go_enter Tryz.func9,Tryz.ntmps9
 have hmm:= @run_makeMap Tryz.prog
 go_wp2
 go_loopw [3,14] (fun v3 i wr=>∃(k m:Nat) (f:UInt64×UInt64→Option Nat) (ys:List Ltv),k≤n∧i= .int .i64 k∧m≤k∧ys.length≤k∧LSt w wr w.heap.size m f (Qd5 ((xs.map (·.ar)).take k)) v3 ys∧ys.map (·.lt)=ltrs (xs.map (·.ar)) k) (fun _ i _=>n-(intOf i).toNat)
 case atStart=>
  refine⟨0,0,fun _=>none,[],by omega,rfl,by omega,by simp,⟨QcP w _,PMap.made w QwC,QCx _,by simp,fun _ _=>rfl,by simp,?_,by simp⟩,rfl⟩
  exact⟨by simp,.inl ⟨rfl,rfl⟩⟩
 case round=>
  clear hmm
  obtain⟨k,m,f,ys,hk,rfl,hm,hyl,S,hys⟩:=hrel
  by_cases hlt:k<n
  ·obtain⟨b,o,rfl,hb,hc⟩:=(hx.later S.lat).at_ hlt
   have hmem:xs.getD k av0∈xs:=by
    rw[QCu,QCv (by omega)]
    exact QDn _
   have har:(xs.map (·.ar))[k]?=some (xs.getD k av0).ar:=by
    rw[QCH,QCu,QCv (by omega)]
    rfl
   have htk:(xs.map (·.ar)).take (k+1)=(xs.map (·.ar)).take k++[(xs.getD k av0).ar]:=by
    rw[List.take_add_one,har]
    rfl
   have hls:=Qq4 (xs.map (·.ar)) k _ har
   have hks:=fun y=>Qnb ((xs.map (·.ar)).take k) y (xs.getD k av0).ar
   have hkok:=Qsu ((xs.map (·.ar)).take k)
   rw[←htk]at hks
   obtain⟨A5,n5,c5,hva,hnc5,hrd5⟩:=hok _ hmem
   generalize xs.getD k av0=x at *
   obtain⟨ar,va⟩:=x
   simp only at har htk hls hks hva hrd5
   subst hva
   generalize (xs.map (·.ar)).take k=T at *
   generalize hK':Qd5 ((xs.map (·.ar)).take (k+1))=K' at *
   have hKs:(fun y=>if mine y ar then tkK pid y.2 (Qd5 T y) ar.pt else Qd5 T y)=K':=by
    funext y
    exact (hks y).symm
   have HKs:=hid hKs
   have HLs:=hid hls
   have HY:=hid hys
   clear hks hls hys hKs har htk hmem
   generalize hK:Qd5 T=K at *
   by_cases hsk:ar.kd=2∧ar.pt.kd=1
   ·obtain⟨hkd,hpk⟩:=hsk
    have hb1:(ar.kd != 2)=false:=by simp[hkd]
    have hb3:(ar.pt.kd != 1)=false:=by simp[hpk]
    have hxm:∀y,mine y ar=decide (y=(ar.to,ar.pt.id)):=by
     intro y
     unfold mine
     rw[hkd,hpk]
     apply QDb.2
     simp only[QCG,beq_iff_eq,decide_eq_true_eq]
     constructor
     ·rintro⟨⟨_,h1⟩,h2⟩
      exact Prod.ext h1.symm h2.symm
     ·rintro rfl
      simp
    have hKn:(fun y=>if y=(ar.to,ar.pt.id) then tkK pid ar.pt.id (K (ar.to,ar.pt.id)) ar.pt else K y)=K':=by
     rw[←HKs.out]
     funext y
     rw[hxm y]
     by_cases hy:y=(ar.to,ar.pt.id)
     ·subst hy
      simp
     ·simp[hy]
    have HKn:=hid hKn
    clear hKn hxm HKs
    have hfc:f (ar.to,ar.pt.id)=none∨∃g,f (ar.to,ar.pt.id)=some g:=by
     cases f (ar.to,ar.pt.id)
     ·exact .inl rfl
     ·exact .inr ⟨_,rfl⟩
    have hfc2:(f (ar.to,ar.pt.id)=none)∨∃G,f (ar.to,ar.pt.id)=some G:=hfc
    clear hfc
    rcases hfc2 with hfx|⟨G,hfx⟩
    case' inl=>
     go_wp2_with (first
      | (refine Qal ?hw _ _ rfl b (o+k*24) (AvC ⟨ar,.slice A5 n5 c5⟩) hc rfl _ Tryz.underlying37 rfl (by rw[Qak];exact Qg0) ?_;(case hw=>rfl))
      | (refine Qaf rfl rfl _ _ _ rfl wr.heap.size _ _ (AvC ⟨ar,.slice A5 n5 c5⟩) (Blk.new wr _ (AvC av0)) rfl rfl 24 Qg0 (Qak ⟨ar,.slice A5 n5 c5⟩) (Qak av0) (Qng ⟨ar,.slice A5 n5 c5⟩ rfl) ?_;intro w2 hb2 ho2
         obtain⟨e5,e6,e7,e0,e1⟩:=Qet hb2
         have hlt2:wr.heap.size<w2.heap.size:=hb2.lt
         have l2:Later wr w2:=(Qaa wr _).only ho2 (QCx _))
      | (refine QiO rfl _ _ rfl Tryz.underlying67 (QoF _) rfl (S.later (l2.trans (Qaa _ _))).map (ar.to,ar.pt.id) rfl ?_;rw[hfx];simp only[ptrV])
      | (refine Qah ?hw 74 _ rfl (MsC ar.pt.id [] pv0) (by simp only[QCA,QCR,QCC];exact Qux _) ?_;(case hw=>rfl))
      | (refine Qpp rfl _ _ _ rfl Tryz.underlying67 rfl (S.later (l2.trans ((Qaa _ _).trans (Qaa _ _)))).map (by unfold maxLen;omega) (ar.to,ar.pt.id) (w2.heap.size+1) rfl rfl ?_;intro w5 hp5 ho5
         have S4:=S.later (l2.trans ((Qaa w2 (.cells #[W64 ar.to,W64 ar.pt.id] 69)).trans (Qaa _ (.cells (MsC ar.pt.id [] pv0).toArray 74))))
         have hb5:=Qio (hb2.later ((Qaa w2 (.cells #[W64 ar.to,W64 ar.pt.id] 69)).trans (Qaa _ (.cells (MsC ar.pt.id [] pv0).toArray 74)))) S4.map.obj.choose_spec.choose_spec ho5)
      | (refine Qal ?hw _ _ rfl wr.heap.size 0 (PaC ar.pt (.slice A5 n5 c5)) (QjC hb5) rfl _ Tryz.underlying34 rfl (by rw[QaD];exact Qcz) ?_;(case hw=>rfl))
      | (refine Qcj ?hw 123 _ rfl 34 5 _ (PaC ar.pt (.slice A5 n5 c5)) Tryz.underlying123 QrF (by omega) (by omega) (QaD _ _) rfl ?_;(case hw=>rfl))
      | fail)
     have em:(w2.alloc (.cells #[W64 ar.to,W64 ar.pt.id] 69)).heap.size=w2.heap.size+1:=by simp
     have hmn:=QwU (w2.alloc (.cells #[W64 ar.to,W64 ar.pt.id] 69)) w.heap.size ar.pt.id (by have:=S.lat.size;omega)
     rw[em]at hmn
     have S5a:=S4.put (x0:=(ar.to,ar.pt.id)) (g:=w2.heap.size+1) hfx hmn (fun y hy=>by
      obtain⟨_,hm⟩:=S.msg y _ hy
      have:=hm.blk.lt
      omega) hp5 ho5
     obtain⟨m5,hm5,f5,hG,S5⟩:∃m5,m5≤k+1∧∃f5:UInt64×UInt64→Option Nat,f5 (ar.to,ar.pt.id)=some (w2.heap.size+1)∧LSt w w5 w.heap.size m5 f5 K u3 ys:=⟨m+1,by omega,_,by simp,S5a⟩
     clear S5a hmn em S4 hp5 ho5
     generalize w2.heap.size+1=G at *
    case' inr=>
     go_wp2_with (first
      | (refine Qal ?hw _ _ rfl b (o+k*24) (AvC ⟨ar,.slice A5 n5 c5⟩) hc rfl _ Tryz.underlying37 rfl (by rw[Qak];exact Qg0) ?_;(case hw=>rfl))
      | (refine Qaf rfl rfl _ _ _ rfl wr.heap.size _ _ (AvC ⟨ar,.slice A5 n5 c5⟩) (Blk.new wr _ (AvC av0)) rfl rfl 24 Qg0 (Qak ⟨ar,.slice A5 n5 c5⟩) (Qak av0) (Qng ⟨ar,.slice A5 n5 c5⟩ rfl) ?_;intro w2 hb2 ho2
         obtain⟨e5,e6,e7,e0,e1⟩:=Qet hb2
         have hlt2:wr.heap.size<w2.heap.size:=hb2.lt
         have l2:Later wr w2:=(Qaa wr _).only ho2 (QCx _)
         have hb5:=hb2.later (Qaa w2 (.cells #[W64 ar.to,W64 ar.pt.id] 69)))
      | (refine QiO rfl _ _ rfl Tryz.underlying67 (QoF _) rfl (S.later (l2.trans (Qaa _ _))).map (ar.to,ar.pt.id) rfl ?_;rw[hfx];simp only[ptrV])
      | (refine Qal ?hw _ _ rfl wr.heap.size 0 (PaC ar.pt (.slice A5 n5 c5)) (QjC hb5) rfl _ Tryz.underlying34 rfl (by rw[QaD];exact Qcz) ?_;(case hw=>rfl))
      | (refine Qcj ?hw 123 _ rfl 34 5 _ (PaC ar.pt (.slice A5 n5 c5)) Tryz.underlying123 QrF (by omega) (by omega) (QaD _ _) rfl ?_;(case hw=>rfl))
      | fail)
     have S5a:=S.later (l2.trans (Qaa w2 (.cells #[W64 ar.to,W64 ar.pt.id] 69)))
     obtain⟨m5,hm5,f5,hG,S5⟩:∃m5,m5≤k+1∧∃f5:UInt64×UInt64→Option Nat,f5 (ar.to,ar.pt.id)=some G∧LSt w (w2.alloc (.cells #[W64 ar.to,W64 ar.pt.id] 69)) w.heap.size m5 f5 K u3 ys:=⟨m,by omega,f,hfx,S5a⟩
     clear S5a
     have em:(w2.alloc (.cells #[W64 ar.to,W64 ar.pt.id] 69)).heap.size=w2.heap.size+1:=by simp
     rw[←em]
     clear em
     generalize w2.alloc (.cells #[W64 ar.to,W64 ar.pt.id] 69)=w5 at *
    all_goals
     clear S ho2 e5 e6 e7 e0 e1 hlt2 l2 hb2 hfx
     have T6:=S5.later (Qaa w5 (.cells (PaC ar.pt (.slice A5 n5 c5)).toArray 34))
     obtain⟨pv6,M6⟩:=T6.msg (ar.to,ar.pt.id) G hG
     have hb6:=hb5.later (Qaa w5 (.cells (PaC ar.pt (.slice A5 n5 c5)).toArray 34))
     have hav:Avoid (· =G) A5 n5:=fun h0 ad had e=>by
      obtain⟨b',o',hA,hlt',_⟩:=hrd5.2 h0
      rw[hA]at had
      cases had
      have:=M6.low
      simp only at e
      omega
     have hkx:=hkok (ar.to,ar.pt.id)
     have hks:=hkx.small
     refine (Qtd w.heap.size G ar.pt.id (K (ar.to,ar.pt.id)) pv6 ar.pt A5 n5 c5 w5.heap.size 34 _ M6 hkx (hrd5.later T6.lat) hav T6.lat.size (by omega) (Blk.new w5 _ _)).mono ?_
     rintro e w7 ⟨rfl,⟨pv7,M7⟩,O7⟩
     have S7:=T6.took hG M7 O7
     have hb7:=hb6.only O7 (Qy0 hb6 M6.blk (by decide))
     clear T6 M6 hb6 hav O7 S5 hb5
     rw[HKn.out]at S7
     have hKT:Hid (Qd5 T (ar.to,ar.pt.id)=K (ar.to,ar.pt.id)):=hid (by rw[hK])
     have hcell:=Qet hb7
     have hok1:=hid (fun h:tkE pid ar.pt.id (K (ar.to,ar.pt.id)) ar.pt=0=>(show tkK pid ar.pt.id (K (ar.to,ar.pt.id)) ar.pt=K (ar.to,ar.pt.id)++[ar.pt] by rw[tkK,if_pos h]))
     have hkn:KeptOk (tkK pid ar.pt.id (K (ar.to,ar.pt.id)) ar.pt):=hkx.snoc
     have HSk:=hid (fun h:Qne T ar=[]=>(show ys.map (·.lt)=ltrs (xs.map (·.ar)) (k+1) by rw[HY.out,HLs.out,h,QC1]))
     have HLt:Hid (Qne T ar=if ar.kd=2∧ar.pt.kd=1∧tkE pid ar.pt.id (K (ar.to,ar.pt.id)) ar.pt=0∧((K (ar.to,ar.pt.id)).length:Int)+1=ar.pt.ct then [⟨ar.to,ar.pt.id,ar.tk,Qnn (K (ar.to,ar.pt.id)++[ar.pt])⟩] else []):=hid (by rw[Qne,hKT.out])
     by_cases hE:tkE pid ar.pt.id (K (ar.to,ar.pt.id)) ar.pt=0
     ·rw[hE]
      have hap:=hok1.out hE
      rw[hap]at M7 hkn
      have hct:ctOf (K (ar.to,ar.pt.id)++[ar.pt])=ar.pt.ct:=Qk2 _ _
      have hlen:((K (ar.to,ar.pt.id)++[ar.pt]).length:Int)=((K (ar.to,ar.pt.id)).length:Nat)+1:=by simp
      have hMi:=QiZ w.heap.size G ar.pt.id _ pv7 w7 M7 hkn (by simp)
      have hMb:Hid (∀ (_:((K (ar.to,ar.pt.id)).length:Int)+1=ar.pt.ct) (w':World) (l:Later w7 w'),_):=hid (fun hf w' l=>Qqy w.heap.size G ar.pt.id _ pv7 w' (M7.later l) hkn (by simp) (by rw[hlen,hct];exact hf))
      have hle:=(hkn.ct (by simp)).2.2.1
      rw[hct,hlen]at hMi hle
      have hc16:=(Qig (Qkl hE).2.1).2.1
      have HE:=hid hE
      clear hct hlen hap hE hok1 M7 hkn hkx hKT
      generalize Qnn (K (ar.to,ar.pt.id)++[ar.pt])=WH at *
      generalize (K (ar.to,ar.pt.id)).length=KL at *
      go_wp2_with fail
      refine hMi.mono ?_
      rintro e w8 ⟨rfl,j8⟩
      have S8:=S7.later j8
      have hb8:=hb7.later j8
      obtain⟨e5,e6,e7,e0,e1⟩:=Qet hb8
      clear hMi S7 hb7 hcell
      by_cases hfull:(KL:Int)+1=ar.pt.ct
      ·have hd:decide ((KL:Int)+1<ar.pt.ct)=false:=decide_eq_false (by omega)
       have hB:=hMb.out hfull w8 j8
       have hl1:=hid (HLt.out.trans (if_pos ⟨hkd,hpk,HE.out,hfull⟩))
       clear hMb HSk HLt hfull
       go_wp2_with fail
       refine hB.mono ?_
       rintro e w9 ⟨A9,n9,c9,rfl,hown9,j9⟩
       have S9:=S8.later j9
       have hb9:=hb8.later j9
       have hw9:w.heap.size≤w8.heap.size:=S8.lat.size
       clear S8 hb8 hB e5 e6 e7 e0 e1 hd
       obtain⟨e5,e6,e7,e0,e1⟩:=Qet hb9
       obtain⟨y,hy⟩:∃y:Ltv,y=⟨⟨ar.to,ar.pt.id,ar.tk,WH⟩,A9,n9,c9⟩:=⟨_,rfl⟩
       have hyb:=hid (Qug y)
       go_wp2_with (first
        | (refine Qah ?hw 52 _ rfl (LtC y) (by simp only[QCA,QCR,QCC];rw[←hyb.out,hy];rfl) ?_;(case hw=>rfl))
        | (refine Qcj ?hw 41 _ rfl 52 4 _ (LtC y) Tryz.underlying41 Qxn (by omega) (by omega) rfl rfl ?_;(case hw=>rfl))
        | (refine QaW (F:=LtC) (d:=lv0) Qjt Qxo (by omega) rfl _ _ _ rfl 52 _ 48 Tryz.underlying41 QzF rfl w _ _ _ (QaC S9.own (Qaa _ _)) (S9.lat.trans (Qaa _ _)) (some ⟨w9.heap.size,0,none⟩) 1 1 [y] (QeP Qjt (by rw[show [y].flatMap LtC=LtC y by simp];exact Blk.new w9 _ _) rfl) rfl rfl (by omega) (by omega) ?_;intro A10 c10 w10 hown10 hl10 hg10)
        | fail)
       have hown9':=Qap (Qbb hown9 hw9) (Qaa w9 (.cells (LtC y).toArray 52))
       have hys2:(ys++[y]).map (·.lt)=ltrs (xs.map (·.ar)) (k+1):=by
        rw[QC6,HY.out,HLs.out,hl1.out,hy]
        rfl
       have S10:=(S9.later (Qaa w9 (.cells (LtC y).toArray 52))).wrote (y:=y) (by simpa using hown10) hg10 hl10 (by rw[hy];rw[hy]at hown9';exact hown9')
       exact⟨⟨k+1,m5,f5,ys++[y],by omega,by go_num,by omega,by simp;omega,by rw[hK'];exact S10,hys2⟩,by simp[intOf];omega⟩
      ·have hd:decide ((KL:Int)+1<ar.pt.ct)=true:=decide_eq_true (by omega)
       have hsk:=hid (HSk.out (by rw[HLt.out,if_neg (fun h=>hfull h.2.2.2)]))
       clear HSk HLt hMb hfull
       go_wp2_with fail
       exact⟨⟨k+1,m5,f5,ys,by omega,by go_num,by omega,by omega,by rw[hK'];exact S8,hsk.out⟩,by simp[intOf];omega⟩
     ·have hsk:=hid (HSk.out (by rw[HLt.out,if_neg (fun h=>hE h.2.2.1)]))
      have hE1:((tkE pid ar.pt.id (K (ar.to,ar.pt.id)) ar.pt:Nat):Int)≠0:=by omega
      clear HSk HLt hok1 hkn M7 hKT
      generalize tkE pid ar.pt.id (K (ar.to,ar.pt.id)) ar.pt=E at *
      have hE2:((E:Int) != 0)=true:=by rw[bne_iff_ne];exact hE1
      go_wp2_with fail
      exact⟨⟨k+1,m5,f5,ys,by omega,by go_num,by omega,by omega,by rw[hK'];exact S7,hsk.out⟩,by simp[intOf];omega⟩
   ·have hno:∀y,mine y ar=false:=by
     intro y
     unfold mine
     by_cases h1:ar.kd=2
     ·have h2:(ar.pt.kd==1)=false:=by
       rw[beq_eq_false_iff_ne]
       exact fun h=>hsk ⟨h1,h⟩
      rw[h2]
      simp
     ·have h2:(ar.kd==2)=false:=by simpa using h1
      rw[h2]
      simp
    have hKK:K=K':=by
     rw[←HKs.out]
     funext y
     rw[hno y]
     rfl
    have hl0:Qne T ar=[]:=by
     unfold Qne
     rw[if_neg (fun h=>hsk ⟨h.1,h.2.1⟩)]
    have HLx:=hid (show ys.map (·.lt)=ltrs (xs.map (·.ar)) (k+1) by rw[HY.out,HLs.out,hl0,QC1])
    subst hKK
    have FIN:=hid (fun (w':World) (l:Later wr w')=>S.later l)
    clear HKs HLs HY hl0 hno S
    have hb1:(ar.kd != 2)=true∨((ar.kd != 2)=false∧(ar.pt.kd != 1)=true):=by
     by_cases h1:ar.kd=2
     ·exact .inr ⟨by simp[h1],by rw[bne_iff_ne];exact fun h=>hsk ⟨h1,h⟩⟩
     ·exact .inl (by simpa using h1)
    clear hsk
    rcases hb1 with hb1|⟨hb1,hb3⟩
    all_goals
     go_wp2_with (first
      | (refine Qal ?hw _ _ rfl b (o+k*24) (AvC ⟨ar,.slice A5 n5 c5⟩) hc rfl _ Tryz.underlying37 rfl (by rw[Qak];exact Qg0) ?_;(case hw=>rfl))
      | (refine Qaf rfl rfl _ _ _ rfl wr.heap.size _ _ (AvC ⟨ar,.slice A5 n5 c5⟩) (Blk.new wr _ (AvC av0)) rfl rfl 24 Qg0 (Qak ⟨ar,.slice A5 n5 c5⟩) (Qak av0) (Qng ⟨ar,.slice A5 n5 c5⟩ rfl) ?_;intro w2 hb2 ho2
         obtain⟨e5,e6,e7,e0,e1⟩:=Qet hb2
         have hlt2:wr.heap.size<w2.heap.size:=hb2.lt
         have l2:Later wr w2:=(Qaa wr _).only ho2 (QCx _))
      | fail)
     exact⟨⟨k+1,m,f,ys,by omega,by go_num,by omega,by omega,by rw[hK'];exact FIN.out _ l2,HLx.out⟩,by simp[intOf];omega⟩
  ·obtain rfl:k=n:=by omega
   go_wp2_with fail
   go_ret
   exact⟨_,ys,rfl,⟨_,_,_,_,S⟩,hys⟩
abbrev tz0:List Value:=[.slice none 0 0,.slice none 0 0,.int .i64 0]
abbrev em9:List Value:=[.int .i64 (-1),.int .u64 0,.slice none 0 0]
theorem QlS:Tryz.prog.built 45 []=some tz0.toArray:=by kernel_rfl
theorem QcF:(Tryz.prog.info? 45).map (·.size)=some 3:=by kernel_rfl
theorem QeN:∀u∈tz0,u.oneCell'=true:=by
 intro u hu
 simp only[QCQ,QCT,or_false]at hu
 rcases hu with rfl|rfl|rfl<;>rfl
theorem QwG:(Tryz.prog.info? 37).map (fun i=>(i.zero,i.size))=some (some (.agg (AvC av0).toArray),24):=by kernel_rfl
set_option maxRecDepth 100000 in
theorem Qrj (w:World):Calls Tryz.prog 10 #[.slice none 0 0,.agg em9.toArray] w fun e w'=>e= .returned (.tuple #[.agg tz0.toArray,.int .i64 1])∧Later w w':=by
 have B1:=Qa8 w 50 em9
 have B2:=B1.add (Qaa _ (.cells tz0.toArray 45)) (k:=w.heap.size+1) (by simp) (by omega) (Blk.new' _ _ tz0 (by simp))
 have e0:=(B2.nth 1 rfl).cellD 0 (u:=.int .i64 (-1)) rfl
 have hb:=hid QlS
 go_enter Tryz.func10,Tryz.ntmps10
 go_wp2_with (first
  | (refine Qah ?hw 45 _ rfl tz0 (by simp only[QCA,QCC];exact hb.out) ?_;(case hw=>rfl))
  | (refine Qaf rfl rfl _ _ _ rfl (w.heap.size+1) _ _ tz0 (B2.nth 0 rfl) rfl rfl 3 QcF rfl rfl QeN ?_;intro w5 hb5 ho5)
  | fail)
 exact bodyPost_ret (Qae rfl _ _ _ _ _ _ hb5 rfl Tryz.underlying45 rfl QcF) rfl ⟨rfl,B2.lat.only ho5 (by omega)⟩
theorem Qz5 {w:World} {g:Nat} {t:TypeId} {x:Arv} (h:Blk w g t (AvC x)):RdF AvC 24 av0 w (some ⟨g,0,none⟩) 1 [x]:=
 QeP Qak (by rw[show [x].flatMap AvC=AvC x by simp];exact h) rfl
theorem QuA {α β:Type} (f:α→β) {l:List α} {b:β} (h:l.map f=[b]):∃y,l=[y]∧f y=b:=by
 rcases l with _|⟨y,_|⟨z,zs⟩⟩
 ·simp at h
 ·exact⟨y,rfl,by simpa using h⟩
 ·simp at h
abbrev aa9 (g:Nat):List Value:=[.int .u8 1,.int .u64 5,.int .i64 0,.int .i64 1,.slice (some ⟨g,0,none⟩) 1 1,.int .u8 2,.int .u64 3,.int .i64 7,.int .u8 0,.int .u8 0,.int .u8 0,.int .u8 0,.int .u8 0,.int .u8 0,.int .u8 0,.int .u8 0,.int .u8 0,.int .u8 0,.int .u8 0,.int .u8 0,.int .u8 0,.int .u8 0,.int .u8 0,.int .u8 0]
theorem Qy7 (g:Nat):aa9 g=AvC ⟨ar9,.slice (some ⟨g,0,none⟩) 1 1⟩:=by rfl
set_option maxRecDepth 100000 in
set_option maxHeartbeats 4000000 in
theorem Qyt (w:World):Calls Tryz.prog 4 #[] w fun e w'=>e= .returned (.bool true)∧Later w w':=by
 have B1:=Qa8 w 5 [.int .u8 9]
 have B2:=B1.add (Qaa _ (.cells (aa9 w.heap.size).toArray 37)) (k:=w.heap.size+1) (by simp) (by omega) (Blk.new' _ _ (aa9 w.heap.size) (by simp))
 have hx:=Qz5 (x:=⟨ar9,.slice (some ⟨w.heap.size,0,none⟩) 1 1⟩) (Qy7 w.heap.size ▸ (B2.nth 0 rfl))
 have hr9:=QdA (bs:=[9]) (rest:=[]) (B2.nth 1 rfl) rfl
 have hok:∀x∈[(⟨ar9,.slice (some ⟨w.heap.size,0,none⟩) 1 1⟩:Arv)],AvOk ((w.alloc (.cells [.int .u8 9].toArray 5)).alloc (.cells (aa9 w.heap.size).toArray 37)) x:=by
  intro x hx
  obtain rfl:x=_:=by simpa using hx
  exact⟨_,1,1,rfl,QCx _,hr9⟩
 have HL:=hid (Qms (some ⟨w.heap.size+1,0,none⟩) 1 1 _ _ hx hok (by omega))
 have j2:=B2.lat
 clear hx hr9 hok B1 B2
 go_enter Tryz.func4,Tryz.ntmps4
 go_wp2_with fail
 refine HL.out.mono ?_
 clear HL
 rintro e w1 ⟨v,ys,rfl,⟨bm,k,f,K,S⟩,hys⟩
 obtain⟨y,rfl,hy⟩:∃y,ys=[y]∧y.lt=⟨3,5,7,[9]⟩:=by
  exact QuA _ (hys.trans QB7)
 obtain⟨lt,va,vn,vc⟩:=y
 simp only at hy
 subst hy
 have htx:=S.txt _ (QDH.2 rfl)
 simp only at htx
 obtain rfl:1=vn:=htx.len
 have hown:=S.own
 simp only[QDi,QEu,QC1,QEd]at hown
 have j1:=S.lat
 clear S hys
 rcases hown.2 with ⟨_,h⟩|⟨g,cap,cur,rfl,_⟩
 ·omega
 go_wp2_with fail
 refine (Qrj w1).mono ?_
 rintro e w2 ⟨rfl,l2⟩
 go_wp2_with (first
  | (refine Qaf rfl rfl _ _ _ rfl w2.heap.size _ _ tz0 (Blk.new w2 _ tz0) rfl rfl 3 QcF rfl rfl QeN ?_;intro w5 hb5 ho5
     have l5:Later w1 w5:=l2.trans ((Qaa w2 _).only ho5 (QCx _))
     have hown5:=QaC hown l5
     have q0:w5.cell? ⟨g,0,none⟩=some (W64 3):=hown5.cells (g:=g) rfl 0 _ rfl
     have q1:w5.cell? ⟨g,1,none⟩=some (W64 5):=hown5.cells (g:=g) rfl 1 _ rfl
     have q2:w5.cell? ⟨g,2,none⟩=some (.int .i64 7):=hown5.cells (g:=g) rfl 2 _ rfl
     have q3:w5.cell? ⟨g,3,none⟩=some (.slice va 1 vc):=hown5.cells (g:=g) rfl 3 _ rfl)
  | fail)
 refine (Qgs va (some ⟨w5.heap.size,0,none⟩) 1 1 vc 1 [9] [9] _ ((htx.rd.later l5).later (Qaa w5 _)) (QdA (bs:=[9]) (rest:=[]) (Blk.new w5 5 [.int .u8 9]) rfl) (by omega) (by omega)).mono ?_
 rintro e w6 ⟨rfl,l6⟩
 simp only[decide_true]
 go_wp2_with fail
 go_ret
 exact⟨rfl,((j2.trans j1).trans l5).trans ((Qaa w5 _).trans l6)⟩
abbrev tr1 (A:Option Addr) (n c:Nat) (B:Option Addr) (m d:Nat) (tk:Int):List Value:=[.slice A n c,.slice B m d,.int .i64 tk]
theorem Qdm (A:Option Addr) (n c:Nat) (B:Option Addr) (m d:Nat) (tk:Int):∀u∈tr1 A n c B m d tk,u.oneCell'=true:=by
 intro u hu
 simp only[QCQ,QCT,or_false]at hu
 rcases hu with rfl|rfl|rfl<;>rfl
theorem QeB (v:Vst):∀u∈VC v,u.oneCell'=true:=by
 intro u hu
 simp only[VC,CC,QCr,QCQ,QDc,QC7,QCT,or_false]at hu
 rcases hu with rfl|rfl|rfl|rfl|⟨b,_,rfl⟩|rfl|rfl<;>rfl
theorem Qzc:(Tryz.prog.info? 107).bind (·.zero)=some (.agg (VC vst0).toArray):=by kernel_rfl
theorem QyT:(Tryz.prog.info? 107).map (fun i=>(i.zero,i.size,i.bytes))=some (some (.agg (VC vst0).toArray),22,48):=by kernel_rfl
theorem QwK:(Tryz.prog.info? 107).map (fun i=>(i.zero,i.size))=some (some (.agg (VC vst0).toArray),22):=by kernel_rfl
theorem Qe3:(Tryz.prog.info? 120).map (·.size)=some 22:=by kernel_rfl
theorem Qra (v:Vst):Tryz.prog.built 107 [(0,.agg (CC v.cm).toArray),(1,W64 v.id),(2,.int .i64 v.tk)]=some (VC v).toArray:=by
 rw[QaO (pl:=[(0,20),(20,1),(21,1)]) Tryz.underlying107 Qzc (by kernel_rfl),QaS (vs:=CC v.cm) (off:=0) rfl (by rw[Qam];rfl) (by rw[Qat,Qam];omega),
  QaS (vs:=[W64 v.id]) (off:=20) rfl rfl (by rw[Qbr _ _ _ (by rw[Qat,Qam];omega),Qat];simp),QaS (vs:=[.int .i64 v.tk]) (off:=21) rfl rfl (by rw[Qbr _ _ _ (by rw[Qbr _ _ _ (by rw[Qat,Qam];omega),Qat];simp),Qbr _ _ _ (by rw[Qat,Qam];omega),Qat];simp),QbM]
 congr 2
 have h1:(CC v.cm).length=20:=Qam _
 have h2:(CC vst0.cm).length=20:=Qam _
 rw[VC,VC]
 generalize CC v.cm=a at *
 generalize CC vst0.cm=z at *
 have e1:Qau (z++[W64 vst0.id,.int .i64 vst0.tk]) 0 a=a++[W64 vst0.id,.int .i64 vst0.tk]:=by
  rw[Qau,QEm,QCs,QCI,h1,QDg h2]
 rw[e1]
 have e2:Qau (a++[W64 vst0.id,.int .i64 vst0.tk]) 20 [W64 v.id]=a++[W64 v.id,.int .i64 vst0.tk]:=by
  rw[Qau,QD9 h1,QCL,QEh,h1,QDf (by omega)]
  rfl
 rw[e2]
 rw[Qau,List.take_append,h1,QCE (by omega),QCL,QEh,h1,QDf (by omega)]
 simp
abbrev emC (tk:Int) (id:UInt64) (B:Option Addr) (m e:Nat):List Value:=[.int .i64 tk,W64 id,.slice B m e]
section
variable {P:Program} {ops:Array Oper} {rest:List Oper} {o:Oper} {a:Act} {w:World} {Q:Exit→Act→World→Prop} {t:TypeId}
theorem go_b {p:Array (Nat×Operand)} (_ho:o.op= .build t p) (h:wpList P ops Q (o :: rest) a w):wpList P ops Q (o :: rest) a w:=h
theorem go_s {p:Array (Nat×Operand)} (_ho:o.op= .buildSlice t 1 p) (h:wpList P ops Q (o :: rest) a w):wpList P ops Q (o :: rest) a w:=h
theorem go_a {s x:Operand} (_ho:o.op= .call { callee:=.builtin .append,args:= #[s,x],argTypes:= #[t,t] }) (h:wpList P ops Q (o :: rest) a w):wpList P ops Q (o :: rest) a w:=h
theorem go_l {x:Operand} (_ho:o.op= .load t x) (h:wpList P ops Q (o :: rest) a w):wpList P ops Q (o :: rest) a w:=h
theorem QbG {x y:Operand} (_ho:o.op= .store t x y) (h:wpList P ops Q (o :: rest) a w):wpList P ops Q (o :: rest) a w:=h
end
theorem Qme (xs:List Nod):QcU [0,QbE xs]=QbE xs∧QcU [2,QbE xs]=2:=by
 have h:QbE xs=0∨2≤QbE xs:=by
  unfold QbE
  split
  ·exact .inr (by omega)
  split
  ·exact .inr (by omega)
  split
  ·exact .inr (by omega)
  ·exact .inl rfl
 generalize QbE xs=x at *
 unfold QcU
 simp only[List.foldl_cons,List.foldl_nil]
 rcases h with rfl|h
 ·exact⟨rfl,rfl⟩
 ·have hx:x≠0:=by omega
  have h2: ¬x<2:=by omega
  exact⟨by simp[hx],by simp[hx,h2]⟩
theorem Qsa (A:Option Addr) (n c:Nat):Tryz.prog.built 45 [(0,.slice A n c)]=some (tr1 A n c none 0 0 0).toArray:=by kernel_rfl
theorem QkF {ops:Array Oper} {o:Oper} {a:Act} (hw:Region.wanted o (yielded ops a.tmps)=true) (ho:o.op= .alloc 102):
 Makes Tryz.prog ops o (fun g=>.pointer (some ⟨g,0,none⟩)) (.cells Tryz.zeroCells102 102) a:=
 ⟨hw,fun w=>by
   unfold execOp
   rw[ho]
   simp[go_sem]⟩
set_option maxRecDepth 100000 in
theorem Qhz (x:Nod) (w:World):
 Calls Tryz.prog 27 #[.agg (NC x).toArray] w fun e w'=>∃g,e= .returned (.slice (some ⟨g,0,none⟩) 32 32)∧w.heap.size≤g∧Blk w' g 5 (x.priv.val.map W8)∧Later w w':=by
 have hb0:Blk (w.alloc (.cells (NC x).toArray 93)) w.heap.size 93 (NC x):=Blk.new _ _ _
 have hc:∀j v,(x.priv.val.map W8)[j]?=some v→(w.alloc (.cells (NC x).toArray 93)).cell? ⟨w.heap.size,2+j,none⟩=some v:=fun j v hv=>hb0.cellD _ (Qsm x hv)
 go_enter Tryz.func27,Tryz.ntmps27
 go_wp2_with (first
  | (refine QwZ rfl _ rfl hc x.priv.2 rfl ?_)
  | fail)
 (with_reducible refine (QmT x.priv.val x.priv.2 _).mono ?_);rintro e w2 ⟨g2,rfl,hg2,hb2,l2⟩
 go_wp2
 go_ret
 exact⟨g2,rfl,by simp at hg2;omega,hb2,(Qaa _ _).trans l2⟩
theorem QyZ {a:Int} {d:Nat} (h:0≤a):0≤a+(d:Int):=by omega
theorem QzJ {a:Int} {d n:Nat} (h:a≤1099511627776+(n:Int)*4294967296) (hd:d<4294967296):a+(d:Int)≤1099511627776+((n+1:Nat):Int)*4294967296:=by omega
set_option maxRecDepth 100000 in
set_option maxHeartbeats 4000000 in
theorem Qqg (A B:Option Addr) (n c m e:Nat) (xs:List Nod) (tk:Int) (id:UInt64) (b:List UInt8) (w:World) (hx:RdN w A n xs) (hn:n≤1048576) (hs:∀x∈xs,x.nm.size≤140737488355328) (hb:RdB w B m b) (hme:m≤e):
 Calls Tryz.prog 10 #[.slice A n c,.agg (emC tk id B m e).toArray] w fun x w'=>∃A' c' B' c2,x= .returned (.tuple #[.agg (tr1 A' (Qa3 xs tk id b).vs.length c' B' (Qa3 xs tk id b).bd.length c2 (Qa3 xs tk id b).tk).toArray,.int .i64 ((Qa3 xs tk id b).er:Nat)])∧
  RdF VC 22 vst0 w' A' (Qa3 xs tk id b).vs.length (Qa3 xs tk id b).vs∧OwnB w' w.heap.size B' (Qa3 xs tk id b).bd.length c2 (Qa3 xs tk id b).bd∧Later w w':=by
 have hbl:=hb.len
 have C1:=Qa8 w 50 (emC tk id B m e)
 have C2:Bag w ((w.alloc (.cells (emC tk id B m e).toArray 50)).alloc (.cells tz0.toArray 45)) [(w.heap.size+1,45,tz0),(w.heap.size,50,emC tk id B m e)]:=
  C1.add (Qaa _ _) (by simp) (by omega) (Blk.new' _ _ tz0 (by simp))
 have e0:=(C2.nth 1 rfl).cellD 0 (u:=.int .i64 tk) rfl
 have e2:=(C2.nth 1 rfl).cellD 2 (u:=.slice B m e) rfl
 have hz:=hid QlS
 have hbt:=hid Qsa
 have hbv:=hid Qra
 have hE0:Hid (Qex tk b xs≠0→Qa3 xs tk id b=⟨[],[],0,Qex tk b xs⟩):=hid (fun h=>if_pos h)
 have hE1:Hid (Qex tk b xs=0→Qa3 xs tk id b=QeK xs 16 id tk b []):=hid (fun h=>if_neg (not_not_intro h))
 have hCk:=hid (fun w h=>Qjy A n c xs w h (by omega) hs)
 obtain⟨l0,l2⟩:=Qme xs
 generalize Qa3 xs tk id b=R at *
 by_cases ht:tk<0∨1099511627776<tk
 ·have hE:Qex tk b xs=1:=if_pos ht
  have hR:=hE0.out (by rw[hE];decide)
  rw[hE]at hR
  replace hR:=hid hR
  clear hE hE0 hE1 hCk l0 l2
  by_cases h0:tk<0
  ·have f0:decide (tk<0)=true:=decide_eq_true h0
   clear ht h0
   go_enter Tryz.func10,Tryz.ntmps10
   go_wp2_with (first
    | (refine go_b rfl ?_;refine Qah ?hw 45 _ rfl tz0 (by simp only[QCA,QCC];exact hz.out) ?_;(case hw=>rfl))
    | (refine QbG rfl ?_;refine Qaf rfl rfl _ _ _ rfl (w.heap.size+1) _ _ tz0 (C2.nth 0 rfl) rfl rfl 3 QcF rfl rfl QeN ?_;intro w5 hb5 ho5)
    | fail)
   exact bodyPost_ret (Qae rfl _ _ _ _ _ _ hb5 rfl Tryz.underlying45 rfl QcF) rfl ⟨none,0,none,0,by rw[hR.out];rfl,by rw[hR.out];exact QdD _,by rw[hR.out];exact Qay _ _ _,C2.lat.only ho5 (by omega)⟩
  ·have f0:decide (tk<0)=false:=decide_eq_false h0
   have f1:decide (1099511627776<tk)=true:=decide_eq_true (ht.resolve_left h0)
   clear ht h0
   go_enter Tryz.func10,Tryz.ntmps10
   go_wp2_with (first
    | (refine go_b rfl ?_;refine Qah ?hw 45 _ rfl tz0 (by simp only[QCA,QCC];exact hz.out) ?_;(case hw=>rfl))
    | (refine QbG rfl ?_;refine Qaf rfl rfl _ _ _ rfl (w.heap.size+1) _ _ tz0 (C2.nth 0 rfl) rfl rfl 3 QcF rfl rfl QeN ?_;intro w5 hb5 ho5)
    | fail)
   exact bodyPost_ret (Qae rfl _ _ _ _ _ _ hb5 rfl Tryz.underlying45 rfl QcF) rfl ⟨none,0,none,0,by rw[hR.out];rfl,by rw[hR.out];exact QdD _,by rw[hR.out];exact Qay _ _ _,C2.lat.only ho5 (by omega)⟩
 have f0:decide (tk<0)=false:=decide_eq_false (fun h=>ht (.inl h))
 have f1:decide (1099511627776<tk)=false:=decide_eq_false (fun h=>ht (.inr h))
 have HZ:=hid zcP
 have hZl:(QCn 768 (0:UInt8)).length=768:=QCJ
 have hZl1:((QCn 768 (0:UInt8)).map W8).length=768:=by rw[QCt,hZl]
 obtain⟨PK,se,hPK,hE,hs0,hPa⟩:∃(PK:List UInt8) (se:Nat),PK.length=768∧Qex tk b xs=QcU [se,QbE xs]∧(QcU [se,QbE xs]=0→PK=b)∧Hid (∀ w,RdB w B m b→Calls Tryz.prog 22 #[.slice B m e] w fun x w'=>x= .returned (.tuple #[.agg (PK.map W8).toArray,.int .i64 (se:Nat)])∧Later w w'):=by
  by_cases h:m=768
  ·subst h
   exact⟨b,0,hbl,by rw[Qex,if_neg ht,if_pos hbl],fun _=>rfl,hid (fun w h=>QpZ B e b w h hme)⟩
  ·exact⟨QCn 768 0,2,hZl,by rw[Qex,if_neg ht,if_neg (by rw[hbl];exact h)],fun h=>absurd (l2.symm.trans h) (by decide),hid (fun w _=>Qqk B m e w h)⟩
 rw[hE]at hE0 hE1
 generalize QCn 768 (0:UInt8)=Z at *
 have hLe:=hid (fun g (w:World) h=>QpN (some ⟨g,0,none⟩) 2 2 [se,QbE xs] w h (by omega))
 clear hE l0 l2 ht
 generalize QcU [se,QbE xs]=E at *
 generalize hCN:QbE xs=CN at *
 clear hCN
 go_enter Tryz.func10,Tryz.ntmps10
 go_wp2_with fail
 refine (hPa.out _ (hb.later C2.lat)).mono ?_
 rintro x w2 ⟨rfl,j2⟩
 have C3:=C2.later j2
 go_wp2_with (first
  | (refine QbG rfl ?_;refine QgG rfl rfl _ _ rfl ((Blk.new w2 _ Tryz.zeroCells85.toList).cast HZ.out) rfl rfl hPK hZl1 ?_;intro w3 hb3 ho3
     have l3:Later w2 w3:=(Qaa w2 _).only ho3 (QCx _)
     have C4:=C3.fresh l3 (QCx _) hb3)
  | fail)
 refine (hCk.out _ (hx.later C4.lat)).mono ?_
 rintro x w4 ⟨rfl,j4⟩
 have C5:=C4.later j4
 go_wp2_with fail
 have C6:=C5.later (Qaa w4 (.cells [eVM se,eVM CN].toArray 46))
 have hrd:Rd (w4.alloc (.cells [eVM se,eVM CN].toArray 46)) (some ⟨w4.heap.size,0,none⟩) 2 ([se,CN].map eVM):=(Blk.new w4 46 [eVM se,eVM CN]).rd rfl
 refine (hLe.out w4.heap.size _ hrd).mono ?_
 rintro x w5 ⟨rfl,j5⟩
 have C7:=C6.later j5
 have hlat7:=C7.lat
 clear hrd C3 C4 C5 C6 e0 e2 hb3 ho3 hPa hCk hLe
 by_cases hE:E=0
 case neg=>
  have hR:=hid (hE0.out hE)
  have fE:((E:Int) != 0)=true:=bne_iff_ne.2 (by omega)
  clear hE hE0 hE1 hs0
  go_wp2_with (first
   | (refine go_b rfl ?_;refine Qah ?hw 45 _ rfl tz0 (by simp only[QCA,QCC];exact hz.out) ?_;(case hw=>rfl))
   | (refine QbG rfl ?_;refine Qaf rfl rfl _ _ _ rfl (w.heap.size+1) _ _ tz0 (C7.nth 1 rfl) rfl rfl 3 QcF rfl rfl QeN ?_;intro w6 hb6 ho6)
   | fail)
  exact bodyPost_ret (Qae rfl _ _ _ _ _ _ hb6 rfl Tryz.underlying45 rfl QcF) rfl ⟨none,0,none,0,by rw[hR.out];rfl,by rw[hR.out];exact QdD _,by rw[hR.out];exact Qay _ _ _,C7.lat.only ho6 (by omega)⟩
 have hR:=hid (hE1.out hE)
 obtain rfl:=hs0 hE
 subst hE
 clear hE0 hE1 hs0
 go_wp2_with fail
 have C8:Bag w (w5.alloc (.cells tz0.toArray 45)) [(w5.heap.size,45,tz0),(w2.heap.size,85,PK.map W8),(w.heap.size+1,45,tz0),(w.heap.size,50,emC tk id B m e)]:=C7.fresh (Qaa _ _) (QCx _) (Blk.new _ _ _)
 have n69:w2.heap.size≠w5.heap.size:=by
  have:=(C7.nth 0 rfl).lt
  omega
 generalize w5.heap.size=g9 at *
 generalize w2.heap.size=g6 at *
 generalize w5.alloc (.cells tz0.toArray 45)=W at *
 have e0:=(C8.nth 3 rfl).cellD 0 (u:=.int .i64 tk) rfl
 have e1:=(C8.nth 3 rfl).cellD 1 (u:=W64 id) rfl
 clear C7 hlat7
 refine Qad [] [0,1,2,3,4,5] [] (by as_aux_lemma=>kernel_rfl) (by as_aux_lemma=>kernel_rfl) (by intro _ _ d _ _ h;cases d<;>exact h) ?_
 simp only[Qai,pick,QCo,QCp,QCq,QCr,QCs]
 repeat (go_big_quiet_step (fail))
 refine wpQuiet_nil ?_
 go_wp2_with fail
 have ht0:0≤tk∧tk≤1099511627776:=by
  have a1:=of_decide_eq_false f0
  have a2:=of_decide_eq_false f1
  omega
 clear f0 f1
 go_loopw [10,11] (fun v10 v11 wr=>∃(k:Nat) (id2:UInt64) (tk2:Int) (p:List UInt8) (vs:List Vst) (A2:Option Addr) (c2:Nat),v10=W64 id2∧v11= .int .i64 tk2∧vs.length+k=16∧p.length=768∧0≤tk2∧tk2≤1099511627776+(vs.length:Int)*4294967296∧
  Bag w wr [(g9,45,tr1 A2 vs.length c2 none 0 0 0),(g6,85,p.map W8),(w.heap.size+1,45,tz0),(w.heap.size,50,emC tk id B m e)]∧wr.ownsRow w.heap.size 107 22 (.slice A2 vs.length c2) vs.length (vs.flatMap VC)∧Hid (R=QeK xs k id2 tk2 p vs)) (fun _ _ w'=>match w'.cell? ⟨g9,0,none⟩ with|some (.slice _ n _)=>16-n|_=>0)
 case atStart=>exact⟨16,id,tk,PK,[],none,0,rfl,rfl,rfl,hPK,ht0.1,by simp;omega,C8.drew,⟨by simp,.inl ⟨rfl,rfl⟩⟩,hR⟩
 case round=>
  clear C8 hR ht0 e0 e1
  obtain⟨k,id2,tk2,p,vs,A2,c2,rfl,rfl,hvk,hpl,ht2,ht3,C,hown,hR⟩:=hrel
  have z0:=(C.nth 0 rfl).cellD 0 (u:=.slice A2 vs.length c2) rfl
  rcases k with _|k
  ·have f16:((vs.length:Int)==16)=true:=beq_iff_eq.2 (by omega)
   have hR0:R=⟨vs,[],0,11⟩:=hR.out
   replace hR0:=hid hR0
   clear hR
   go_wp2_with (first
    | (refine go_b rfl ?_;refine Qah ?hw 45 _ rfl (tr1 A2 vs.length c2 none 0 0 0) (by simp only[QCA,QCR,QCC];exact hbt.out _ _ _) ?_;(case hw=>rfl))
    | (refine QbG rfl ?_;refine Qaf rfl rfl _ _ _ rfl (w.heap.size+1) _ _ (tr1 A2 vs.length c2 none 0 0 0) (C.nth 2 rfl) rfl rfl 3 QcF rfl rfl (Qdm _ _ _ _ _ _ _) ?_;intro w6 hb6 ho6)
    | fail)
   have own6:=Qar hown (C.nth 2 rfl) (by decide) ho6
   exact bodyPost_ret (Qae rfl _ _ _ _ _ _ hb6 rfl Tryz.underlying45 rfl QcF) rfl ⟨A2,c2,none,0,by rw[hR0.out];rfl,by rw[hR0.out];exact Qc5 (d:=vst0) Qat own6 rfl,by rw[hR0.out];exact Qay _ _ _,C.lat.only ho6 (by omega)⟩
  have f16:((vs.length:Int)==16)=false:=beq_eq_false_iff_ne.2 (by omega)
  have hAt:=hid (fun w h=>Qxy A n c xs id2 w h (by omega) hs)
  have r1:=hid (fun h=>hR.out.trans (Qj1 (xs:=xs) (k:=k) (id:=id2) (tk:=tk2) (p:=p) (vs:=vs) h))
  have r2:=hid (fun h h1=>hR.out.trans (QjY (xs:=xs) (k:=k) (id:=id2) (tk:=tk2) (p:=p) (vs:=vs) h h1))
  have r3:=hid (fun h h1 h2=>hR.out.trans (QlZ (xs:=xs) (k:=k) (id:=id2) (tk:=tk2) (p:=p) (vs:=vs) h h1 h2))
  have r4:=hid (fun h h1 h2=>hR.out.trans (QoD (xs:=xs) (k:=k) (id:=id2) (tk:=tk2) (p:=p) (vs:=vs) h h1 h2))
  clear hR
  generalize (QbN (byId id2) xs).2=FE at *
  generalize (QbN (byId id2) xs).1=FN at *
  go_wp2_with fail
  refine (hAt.out wr (hx.later C.lat)).mono ?_
  rintro x x1 ⟨rfl,i1⟩
  have D1:=C.later i1
  have own1:=QaC hown i1
  have hz0:=hid z0
  clear hAt z0
  by_cases hFE:FE≠0
  ·have fE:((FE:Int) != 0)=true:=bne_iff_ne.2 (by omega)
   have hR0:=hid (r1.out hFE)
   clear r1 r2 r3 r4 hFE
   go_wp2_with (first
    | (refine QbG rfl ?_;refine QcE Qey rfl rfl _ _ rfl (Blk.new x1 _ (NC nod0)) rfl rfl (QaR _) ?_;intro x2 hb2 ho2
       have l2:Later x1 x2:=(Qaa x1 _).only ho2 (QCx _)
       have D2:=D1.later l2
       have z2:=(D2.nth 0 rfl).cellD 0 (u:=.slice A2 vs.length c2) rfl)
    | (refine go_b rfl ?_;refine Qah ?hw 45 _ rfl (tr1 A2 vs.length c2 none 0 0 0) (by simp only[QCA,QCR,QCC];exact hbt.out _ _ _) ?_;(case hw=>rfl))
    | (refine QbG rfl ?_;refine Qaf rfl rfl _ _ _ rfl (w.heap.size+1) _ _ (tr1 A2 vs.length c2 none 0 0 0) (D2.nth 2 rfl) rfl rfl 3 QcF rfl rfl (Qdm _ _ _ _ _ _ _) ?_;intro w6 hb6 ho6)
    | fail)
   have own6:=Qar (QaC own1 l2) (D2.nth 2 rfl) (by decide) ho6
   exact bodyPost_ret (Qae rfl _ _ _ _ _ _ hb6 rfl Tryz.underlying45 rfl QcF) rfl ⟨A2,c2,none,0,by rw[hR0.out];rfl,by rw[hR0.out];exact Qc5 (d:=vst0) Qat own6 rfl,by rw[hR0.out];exact Qay _ _ _,D2.lat.only ho6 (by omega)⟩
  replace r2:=hid (r2.out hFE)
  replace r3:=hid (r3.out hFE)
  replace r4:=hid (r4.out hFE)
  obtain rfl:FE=0:=Classical.not_not.1 hFE
  clear r1 hFE
  go_wp2_with (first
   | (refine QbG rfl ?_;refine QcE Qey rfl rfl _ _ rfl (Blk.new x1 _ (NC nod0)) rfl rfl (QaR _) ?_;intro x2 hb2 ho2
      have l2:Later x1 x2:=(Qaa x1 _).only ho2 (QCx _)
      have D2:=D1.fresh l2 (QCx _) hb2
      have own2:=QaC own1 l2)
   | fail)
  generalize x1.heap.size=gn at *
  have hUn:=hid (fun A2 c2 w h=>Qpz A2 32 c2 FN.priv.val p w h (by omega) hpl)
  have hPv:=hid (fun w=>Qhz FN w)
  clear hb2 ho2 l2 D1 own1 i1 C hown
  have hUP:=Qgj FN.priv.val p hpl
  have HZp:=hid zcPe
  have hzl:(PC cmd0 z768 nil8).length=789:=QbU _ QaY _
  generalize unwE FN.priv.val p=UE at *
  generalize unwC FN.priv.val p=UC at *
  generalize unwP FN.priv.val p=UP at *
  generalize unwB FN.priv.val p=UB at *
  refine QaG [0,2] [([],1,1),([],1,3),([4,5,6],2,7)] [] [8,9] [7] (fun _=>(fun g=>.pointer (some ⟨g,0,none⟩),.cells Tryz.zeroCells102 102)) (by as_aux_lemma=>kernel_rfl) (by as_aux_lemma=>kernel_rfl) (by intro _ _ d _ _ h;cases d<;>exact h) (by intro _ _ d _ _ h;cases d<;>exact h) ?_
  simp only[pick,QCo,QCp,QCq,QCr,QCs]
  repeat (first|go_big_quiet_skip|(go_big_quiet_want;(first|refine QnH _ rfl (fun i v hv=>by rw[QCI];exact (D2.drew.nth 0 rfl).cellD i hv) (D2.drew.nth 0 rfl).lt rfl ?_|refine QeO _ _ rfl 0 (p.map W8) (D2.drew.nth 2 rfl) rfl (fun j v hv=>by rw[QCI];exact hv) _ Tryz.underlying85 rfl (by rw[QCt,hpl];exact Qhg) ?_);simp only[Act.put,QCw,QCz,QCy];go_big_quiet_on)|(go_big_quiet_step (fail)))
  refine wpQuiet_nil ?_
  refine⟨?mk,?_⟩
  case mk=>
   refine⟨fun o ho=>?_,trivial⟩
   simp only[QCo,QCp,Option.some.injEq]at ho
   subst ho
   exact QkF rfl rfl
  simp only[Qbp,pick,QCo,QCp,QCq,QCr,QCs]
  refine wpQuiet_nil ?_
  intro m1 j1'
  go_wp2_with fail
  refine (hPv.out _).mono ?_
  rintro x m2 ⟨gk,rfl,hgk,hbk,j2'⟩
  go_wp2_with fail
  try refine⟨by first|assumption|exact Qab _|exact Qaa _ _|exact Later.refl _,?_⟩
  try simp only[Qai,pick,QCo,QCp,QCq,QCr,QCs]
  repeat (go_big_quiet_step (fail))
  refine wpQuiet_nil ?_
  intro m3 j3'
  go_wp2_with fail
  refine (hUn.out _ _ _ (Qen (hbk.later j3') FN.priv.2)).mono ?_
  rintro x m4 ⟨AB,cB,rfl,ownB,j4'⟩
  go_wp2_with fail
  try refine⟨by first|assumption|exact Qab _|exact Qaa _ _|exact Later.refl _,?_⟩
  try simp only[Qai,pick,QCo,QCp,QCq,QCr,QCs]
  repeat (go_big_quiet_step (fail))
  refine wpQuiet_nil ?_
  intro m5 gp j5' hgp _ hbp
  refine wpQuiet_nil ?_
  intro m6 j6'
  simp only[QCo,QCp,QDF,Act.put,QCw,QCz,QCy]
  have hB6:Blk m6 gp 102 (PC cmd0 z768 nil8):=(Blk.later (show Blk m5 gp _ Tryz.zeroCells102.toList from hbp) j6').cast HZp.out
  have jj:=((j1'.trans j2').trans (j3'.trans j4')).trans (j5'.trans j6')
  have ownB6:=Qbb (Qap ownB (j5'.trans j6')) (QC4 D2.lat.size (QC4 (Qab x2).size ((j1'.trans j2').trans j3').size))
  have own6:=QaC own2 ((Qab x2).trans jj)
  have D6:=D2.drew.fresh jj hgp hB6
  clear hbk hgk ownB j1' j2' j3' j4' j5' j6' hbp hB6 jj D2 own2 hUn hPv
  by_cases hUE:UE≠0
  ·have fU:((UE:Int) != 0)=true:=bne_iff_ne.2 (by omega)
   have hR0:=hid (r2.out hUE)
   clear r2 r3 r4 hUE
   go_wp2_with (first
    | (refine QbG rfl ?_;refine Qd7 rfl rfl _ _ rfl (D6.nth 0 rfl) rfl rfl hUP rfl hzl ?_;intro m7 hb7 ho7
       have D7:=D6.write 0 rfl ho7 hb7
       have own7:=Qar own6 (D6.nth 0 rfl) (by decide) ho7
       have z2:=(D7.nth 2 rfl).cellD 0 (u:=.slice A2 vs.length c2) rfl)
    | (refine go_b rfl ?_;refine Qah ?hw 45 _ rfl (tr1 A2 vs.length c2 none 0 0 0) (by simp only[QCA,QCR,QCC];exact hbt.out _ _ _) ?_;(case hw=>rfl))
    | (refine QbG rfl ?_;refine Qaf rfl rfl _ _ _ rfl (w.heap.size+1) _ _ (tr1 A2 vs.length c2 none 0 0 0) (D7.nth 4 rfl) rfl rfl 3 QcF rfl rfl (Qdm _ _ _ _ _ _ _) ?_;intro m8 hb8 ho8)
    | fail)
   have own8:=Qar own7 (D7.nth 4 rfl) (by decide) ho8
   exact bodyPost_ret (Qae rfl _ _ _ _ _ _ hb8 rfl Tryz.underlying45 rfl QcF) rfl ⟨A2,c2,none,0,by rw[hR0.out];rfl,by rw[hR0.out];exact Qc5 (d:=vst0) Qat own8 rfl,by rw[hR0.out];exact Qay _ _ _,D7.lat.only ho8 (by omega)⟩
  replace r3:=hid (r3.out hUE)
  replace r4:=hid (r4.out hUE)
  obtain rfl:UE=0:=Classical.not_not.1 hUE
  clear r2 hUE
  go_wp2_with (first
   | (refine QbG rfl ?_;refine Qd7 rfl rfl _ _ rfl (D6.nth 0 rfl) rfl rfl hUP rfl hzl ?_;intro m7 hb7 ho7
      have D7:=D6.write 0 rfl ho7 hb7
      have own7:=Qar own6 (D6.nth 0 rfl) (by decide) ho7
      have ownB7:=Qar ownB6 (D6.nth 0 rfl) (by decide) ho7
      have z2:=(D7.nth 2 rfl).cellD 0 (u:=.slice A2 vs.length c2) rfl)
   | (refine go_l rfl ?_;refine Qal ?hw _ _ rfl gp 0 (CC UC) (fun j v hv=>(D7.nth 0 rfl).cellD (0+j) (QkY _ _ _ j v hv)) rfl _ Tryz.underlying100 rfl (by rw[Qam];exact Qkt) ?_;(case hw=>rfl))
   | (refine go_b rfl ?_;refine Qah ?hw 107 _ rfl (VC ⟨UC,id2,tk2⟩) (by simp only[QCA,QCR,QCC];exact hbv.out ⟨UC,id2,tk2⟩) ?_;(case hw=>rfl))
   | (refine go_s rfl ?_;refine Qcj ?hw 43 _ rfl 107 22 _ (VC ⟨UC,id2,tk2⟩) Tryz.underlying43 QwK (by omega) (by omega) (Qat _) rfl ?_;(case hw=>rfl))
   | (refine go_a rfl ?_;refine QaW (F:=VC) (d:=vst0) Qat QeB (by omega) rfl _ _ _ rfl 107 _ 48 Tryz.underlying43 QyT rfl w _ _ _ (QaC own7 (Qaa _ _)) (D7.lat.trans (Qaa _ _)) (some ⟨m7.heap.size,0,none⟩) 1 1 [⟨UC,id2,tk2⟩] (QeP Qat (show Blk (m7.alloc (.cells (VC ⟨UC,id2,tk2⟩).toArray 107)) m7.heap.size 107 ([(⟨UC,id2,tk2⟩:Vst)].flatMap VC) by simp only[QDi,QEu,QC1];exact Blk.new m7 _ _) rfl) rfl rfl (by omega) (by omega) ?_;intro A8 c8 m8 hown8 hl8 hg8
      have hr8:=QaC own7 (Qaa m7 (.cells (VC ⟨UC,id2,tk2⟩).toArray 107))
      have D8:=(D7.later (Qaa m7 (.cells (VC ⟨UC,id2,tk2⟩).toArray 107))).grown hr8 (QhO (by simp)) (QCx _) hg8
      have ownB8:=QbT (Qap ownB7 (Qaa m7 (.cells (VC ⟨UC,id2,tk2⟩).toArray 107))) hr8 (by decide) hg8)
   | (refine QbG rfl ?_;refine Qac rfl rfl _ _ _ rfl g9 0 _ _ (D8.nth 2 rfl) rfl (by simp) rfl (by kernel_rfl) ?_;intro v9 m9 hv9 hb9 ho9;simp[go_sem]at hv9;subst hv9
      have D9:=D8.write 2 rfl ho9 hb9)
   | (refine go_l rfl ?_;refine Qal ?hw _ _ rfl gp 0 (CC UC) (fun j v hv=>(D9.nth 0 rfl).cellD (0+j) (QkY _ _ _ j v hv)) rfl _ Tryz.underlying100 rfl (by rw[Qam];exact Qkt) ?_;(case hw=>rfl))
   | fail)
  have own9:=Qar hown8 (D8.nth 2 rfl) (by decide) ho9
  have ownB9:=Qar ownB8 (D8.nth 2 rfl) (by decide) ho9
  clear D6 D7 D8 own6 own7 ownB6 ownB7 ownB8 hown8 hr8 hg8 hl8 ho7 hb7 ho9 hb9 z2
  refine (QuJ UC m9).mono ?_
  rintro x n1 ⟨rfl,i1⟩
  have E1:=D9.later i1
  have hdl:=UC.dl.toNat_lt
  go_wp2_with (first
   | (refine go_l rfl ?_;refine Qal ?hw _ _ rfl gp 0 (CC UC) (fun j v hv=>(E1.nth 0 rfl).cellD (0+j) (QkY _ _ _ j v hv)) rfl _ Tryz.underlying100 rfl (by rw[Qam];exact Qkt) ?_;(case hw=>rfl))
   | fail)
  refine (Qn4 UC n1).mono ?_
  rintro x n2 ⟨rfl,i2⟩
  have E2:=E1.later i2
  have ownV:=QaC own9 (i1.trans i2)
  have ownT:=Qap ownB9 (i1.trans i2)
  clear i1 i2 E1 D9 own9 ownB9
  have zb:=(E2.nth 0 rfl).cellD 788 (Qxh UC hUP _)
  by_cases hkd:UC.kd≠1
  ·have fk:(UC.kd==1)=false:=beq_eq_false_iff_ne.2 hkd
   have hR0:=hid (r3.out hkd)
   clear r3 r4 hkd
   go_wp2_with (first
    | (refine QbG rfl ?_;refine Qac rfl rfl _ _ _ rfl g9 1 _ _ (E2.nth 2 rfl) rfl (by simp) rfl (by kernel_rfl) ?_;intro v1 k1 hv1 hb1 ho1;simp[go_sem]at hv1;subst hv1
       have E3:=E2.write 2 rfl ho1 hb1
       have oV3:=Qar ownV (E2.nth 2 rfl) (by decide) ho1
       have oT3:=Qar ownT (E2.nth 2 rfl) (by decide) ho1)
    | (refine QbG rfl ?_;refine Qac rfl rfl _ _ _ rfl g9 2 _ _ (E3.nth 2 rfl) rfl (by simp) rfl (by kernel_rfl) ?_;intro v2 k2 hv2 hb2 ho2;simp[go_sem]at hv2;subst hv2
       have E4:=E3.write 2 rfl ho2 hb2
       have oV4:=Qar oV3 (E3.nth 2 rfl) (by decide) ho2
       have oT4:=Qar oT3 (E3.nth 2 rfl) (by decide) ho2)
    | (refine go_l rfl ?_;refine Qal ?hw _ _ rfl g9 0 (tr1 A8 (vs.length+1) c8 AB UB.length cB (tk2+(UC.dl.toNat:Int))) (fun j v hv=>by rw[QCI];exact (E4.nth 2 rfl).cellD j hv) rfl _ Tryz.underlying45 rfl QcF ?_;(case hw=>rfl))
    | (refine QbG rfl ?_;refine Qaf rfl rfl _ _ _ rfl (w.heap.size+1) _ _ (tr1 A8 (vs.length+1) c8 AB UB.length cB (tk2+(UC.dl.toNat:Int))) (E4.nth 4 rfl) rfl rfl 3 QcF rfl rfl (Qdm _ _ _ _ _ _ _) ?_;intro k3 hb3 ho3)
    | fail)
   have oV5:=Qar oV4 (E4.nth 4 rfl) (by decide) ho3
   have oT5:=Qar oT4 (E4.nth 4 rfl) (by decide) ho3
   have hvl:(vs++[(⟨UC,id2,tk2⟩:Vst)]).length=vs.length+1:=by simp
   have oV6:k3.ownsRow w.heap.size 107 22 (.slice A8 (vs++[(⟨UC,id2,tk2⟩:Vst)]).length c8) (vs++[(⟨UC,id2,tk2⟩:Vst)]).length ((vs++[(⟨UC,id2,tk2⟩:Vst)]).flatMap VC):=by
    rw[hvl,QDZ]
    exact oV5
   exact bodyPost_ret (Qae rfl _ _ _ _ _ _ hb3 rfl Tryz.underlying45 rfl QcF) rfl ⟨A8,c8,AB,cB,by rw[hR0.out,hvl];rfl,by rw[hR0.out];exact Qc5 (d:=vst0) Qat oV6 rfl,by rw[hR0.out];exact oT5,E4.lat.only ho3 (by omega)⟩
  ·have fk:(UC.kd==1)=true:=beq_iff_eq.2 (Classical.not_not.1 hkd)
   have hR0:=hid (r4.out hkd)
   clear r3 r4 hkd zb
   have z3:n2.cell? ⟨gp,3,none⟩=some (W64 UC.nx):=(E2.nth 0 rfl).cellD 3 (QkY UC UP _ 3 (W64 UC.nx) rfl)
   have hp1:(p.map W8).length=768:=by rw[QCt,hpl]
   go_wp2_with fail
   refine Qad [] [0,1,2,3,4,5,6] [7] (by as_aux_lemma=>kernel_rfl) (by as_aux_lemma=>kernel_rfl) (by intro _ _ d _ _ h;cases d<;>exact h) ?_
   simp only[Qai,pick,QCo,QCp,QCq,QCr,QCs]
   repeat (first|go_big_quiet_skip|(go_big_quiet_want;(refine QeO _ _ rfl 20 (UP.map W8) (E2.drew.nth 0 rfl) rfl (Qzq _ _ _) _ Tryz.underlying85 rfl (by rw[QCt,hUP];exact Qhg) ?_);simp only[Act.put,QCw,QCz,QCy];go_big_quiet_on)|(go_big_quiet_step (fail)))
   refine wpQuiet_nil ?_
   go_wp2_with (first
    | (refine QbG rfl ?_;refine QgG rfl rfl _ _ rfl (E2.drew.nth 3 rfl) rfl rfl hUP hp1 ?_;intro k1 hb1 ho1)
    | fail)
   have E3:=E2.drew.write 3 rfl ho1 hb1
   have oV3:=Qar (QaC ownV (Qab _)) (E2.drew.nth 3 rfl) (by decide) ho1
   have hvl:(vs++[(⟨UC,id2,tk2⟩:Vst)]).length=vs.length+1:=by simp
   have E4:Bag w k1 [(g9,45,tr1 A8 (vs++[(⟨UC,id2,tk2⟩:Vst)]).length c8 none 0 0 0),(g6,85,UP.map W8),(w.heap.size+1,45,tz0),(w.heap.size,50,emC tk id B m e)]:=by
    rw[hvl]
    exact E3.drop 2
   have oV6:k1.ownsRow w.heap.size 107 22 (.slice A8 (vs++[(⟨UC,id2,tk2⟩:Vst)]).length c8) (vs++[(⟨UC,id2,tk2⟩:Vst)]).length ((vs++[(⟨UC,id2,tk2⟩:Vst)]).flatMap VC):=by
    rw[hvl,QDZ]
    exact oV3
   have zn:k1.cell? ⟨g9,0,none⟩=some (.slice A8 (vs++[(⟨UC,id2,tk2⟩:Vst)]).length c8):=(E4.nth 0 rfl).cellD 0 rfl
   refine⟨?_,?_⟩
   ·have q1:(vs++[(⟨UC,id2,tk2⟩:Vst)]).length+k=16:=by rw[hvl];omega
    have q2:0≤tk2+(UC.dl.toNat:Int):=QyZ ht2
    have q3:tk2+(UC.dl.toNat:Int)≤1099511627776+((vs++[(⟨UC,id2,tk2⟩:Vst)]).length:Int)*4294967296:=by
     rw[hvl]
     exact QzJ ht3 hdl
    exact⟨k,UC.nx,_,UP,_,A8,c8,rfl,rfl,q1,hUP,q2,q3,E4,oV6,hR0⟩
   ·rw[zn,hz0.out,hvl]
    show 16-(vs.length+1)<16-vs.length
    omega
end Go.Proofs.YtdkpcdgckgaklaaGreat
namespace Go.Proofs.YtdkpcdgckgaklaaGreat
open Go.RowKit
section
variable {α:Type} (pr:α→Prt)
end
end Go.Proofs.YtdkpcdgckgaklaaGreat
namespace Go.Proofs.YtdkpcdgckgaklaaGreat
open Go.RowKit
open Go.BigFrame
structure Pv where
 p:Prt
 va:Option Addr
 vn:Nat
 vc:Nat
def PvOk (w:World) (x:Pv):Prop:=x.vn≤x.vc∧RdB w x.va x.vn x.p.da
theorem PvOk.later {w w':World} {x:Pv} (h:PvOk w x) (hl:Later w w'):PvOk w' x:=⟨h.1,h.2.later hl⟩
theorem QeD (x:Arw):∀u∈ArC x,u.oneCell'=true:=QaP _ _ _ _
def aw0:Arw:=⟨⟨prt0,0,0,0,QaV⟩,none,0,0⟩
theorem QyY:(Tryz.prog.info? 37).map (fun i=>(i.zero,i.size,i.bytes))=some (some (.agg (ArC aw0).toArray),24,96):=by kernel_rfl
def AwOk (w:World) (base:Nat) (g:Arw):Prop:=OwnB w base g.va g.vn g.vc g.ar.pt.da
theorem QqC:Tryz.prog.built 37 []=some (AvC av0).toArray:=by kernel_rfl
theorem Qsy (kd:UInt8) (id:UInt64) (tk:Int):Tryz.prog.built 37 [(1,W8 kd),(2,W64 id),(3,.int .i64 tk)]=some (AvC ⟨⟨prt0,kd,id,tk,QaV⟩,.slice none 0 0⟩).toArray:=by kernel_rfl
theorem Qfi:(Tryz.prog.info? 107).map (·.size)=some 22:=by kernel_rfl
theorem QkH (v:Vst):∀u∈VC v,u.oneCell'=true:=by
 intro u hu
 simp only[VC,CC,QCr,QCQ,QDc,QC7,QCT,or_false]at hu
 rcases hu with rfl|rfl|rfl|rfl|⟨b,_,rfl⟩|rfl|rfl<;>rfl
set_option maxRecDepth 100000 in
set_option maxHeartbeats 4000000 in
theorem Qui (A B:Option Addr) (n c m e:Nat) (vs:List Vst) (b:List UInt8) (tk:Int) (w:World) (hv:RdF VC 22 vst0 w A n vs) (hn:n≤1048576) (hb:RdB w B m b) (hme:m≤e):
 Calls Tryz.prog 12 #[.agg #[.slice A n c,.slice B m e,.int .i64 tk]] w fun x w'=>∃A' c',x= .returned (.tuple #[.agg (AvC ⟨arvA vs b tk,.slice A' (arvA vs b tk).pt.da.length c'⟩).toArray,.int .i64 (arvE vs b:Nat)])∧
  OwnB w' w.heap.size A' (arvA vs b tk).pt.da.length c' (arvA vs b tk).pt.da∧Later w w':=by
 have hvl:=hv.1
 have hbl:=hb.len
 have C1:=Qa8 w 45 [.slice A n c,.slice B m e,.int .i64 tk]
 have C2:=C1.add (Qaa _ (.cells az0.toArray 37)) (k:=w.heap.size+1) (by simp) (by omega) (Blk.new' _ _ az0 (by simp))
 have q0:=(C2.nth 1 rfl).cellD 0 (u:=.slice A n c) rfl
 have q1:=(C2.nth 1 rfl).cellD 1 (u:=.slice B m e) rfl
 have q2:=(C2.nth 1 rfl).cellD 2 (u:=.int .i64 tk) rfl
 have hb0:=hid QqC
 have hb1:=hid Qsy
 by_cases hn0:n=0
 ·subst hn0
  obtain⟨HE,HA⟩:=QhH (vs:=vs) (b:=b) tk (.inl hvl)
  replace HE:=hid HE
  replace HA:=hid HA
  go_enter Tryz.func12,Tryz.ntmps12
  go_wp2_with (first
   | (refine Qah ?hw 37 _ rfl (AvC av0) (by simp only[QCA,QCC];exact hb0.out) ?_;(case hw=>rfl))
   | (refine Qaf rfl rfl _ _ _ rfl (w.heap.size+1) _ _ (AvC av0) (C2.nth 0 rfl) rfl rfl 24 Qa0 (Qak _) rfl (QaP _ _ _ _) ?_;intro w5 hb5 ho5)
   | fail)
  exact bodyPost_ret (Qae rfl _ _ _ _ _ _ hb5 rfl Tryz.underlying37 rfl (by rw[Qak];exact Qa0)) rfl ⟨none,0,by rw[HE.out,HA.out];rfl,by rw[HA.out];exact Qay _ _ _,C2.lat.only ho5 (by omega)⟩
 obtain⟨k,rfl⟩:∃k,n=k+1:=⟨n-1,by omega⟩
 have hne:((k:Int)+1==0)=false:=beq_eq_false_iff_ne.2 (by omega)
 by_cases hm:m≠480
 ·have hm2:((m:Int) != 480)=true:=bne_iff_ne.2 (by omega)
  obtain⟨HE,HA⟩:=QhH (vs:=vs) (b:=b) tk (.inr (by rw[hbl];exact hm))
  replace HE:=hid HE
  replace HA:=hid HA
  go_enter Tryz.func12,Tryz.ntmps12
  go_wp2_with (first
   | (refine Qah ?hw 37 _ rfl (AvC av0) (by simp only[QCA,QCC];exact hb0.out) ?_;(case hw=>rfl))
   | (refine Qaf rfl rfl _ _ _ rfl (w.heap.size+1) _ _ (AvC av0) (C2.nth 0 rfl) rfl rfl 24 Qa0 (Qak _) rfl (QaP _ _ _ _) ?_;intro w5 hb5 ho5)
   | fail)
  exact bodyPost_ret (Qae rfl _ _ _ _ _ _ hb5 rfl Tryz.underlying37 rfl (by rw[Qak];exact Qa0)) rfl ⟨none,0,by rw[HE.out,HA.out];rfl,by rw[HA.out];exact Qay _ _ _,C2.lat.only ho5 (by omega)⟩
 obtain rfl:m=480:=Classical.not_not.1 hm
 have hS: ¬(vs.length=0∨b.length≠480):=by omega
 obtain⟨b0,o,rfl,hb00,hc⟩:=(hv.later C2.lat).at_ (k:=k) (by omega)
 have hlv:vs.getD k vst0=QcG vs:=by rw[QcG,hvl];rfl
 rw[hlv]at hc
 have r4:=hid (fun h=>Ql1 (vs:=vs) (b:=b) tk hS h)
 have rf:=hid (fun h1 h2 h3=>QnY (vs:=vs) (b:=b) tk hS h1 h2 h3)
 have rb:=hid (fun h1 h2=>QrB (vs:=vs) (b:=b) tk hS h1 h2)
 have rt:=hid (fun h1 h2 h3=>Qoz (vs:=vs) (b:=b) tk hS h1 h2 h3)
 have rg:=hid (fun h1 h2 h3=>Qo0 (vs:=vs) (b:=b) tk hS h1 h2 h3)
 have hPa:=hid (fun w h=>Qqp B e b w h hme)
 have hPd:Hid (parE b≠0→parP b=prt0):=hid (fun h=>by rw[parP,if_neg h])
 generalize arvE vs b=E at *
 generalize arvA vs b tk=R at *
 generalize QcG vs=v at *
 generalize parE b=PE at *
 generalize parP b=P at *
 clear hlv hS hm hn0 hvl
 have hsz:((w.alloc (.cells [.slice (some ⟨b0,o,none⟩) (k+1) c,.slice B 480 e,.int .i64 tk].toArray 45)).alloc (.cells az0.toArray 37)).heap.size=w.heap.size+2:=by simp
 by_cases h4:v.cm.kd=4
 ·obtain⟨HE,HA⟩:=r4.out h4
  replace HE:=hid HE
  replace HA:=hid HA
  have f4:(v.cm.kd==4)=true:=by rw[h4];rfl
  clear r4 rf rb rt rg hPa hPd h4
  go_enter Tryz.func12,Tryz.ntmps12
  go_wp2_with (first
   | (refine Qal ?hw _ _ rfl b0 (o+k*22) (VC v) hc rfl _ Tryz.underlying107 rfl (by rw[Qat];exact Qfi) ?_;(case hw=>rfl))
   | (refine Qaf rfl rfl _ _ _ rfl (w.heap.size+2) _ _ (VC v) (Blk.new' _ _ (VC vst0) hsz) rfl rfl 22 Qfi (Qat _) (Qat vst0) (QkH _) ?_;intro w3 hb3 ho3
      have l3:=Later.only (Qaa _ _) ho3 (QDR hsz)
      have C3:=C2.fresh l3 (QDR hsz) hb3
      obtain⟨x0,x20,x4⟩:=QbD hb3
      have y2:=(C3.nth 2 rfl).cellD 2 (u:=.int .i64 tk) rfl)
   | (refine Qah ?hw 37 _ rfl (AvC ⟨⟨prt0,v.cm.kd,v.id,tk,QaV⟩,.slice none 0 0⟩) (by simp only[QCA,QCR,QCC];exact hb1.out _ _ _) ?_;(case hw=>rfl))
   | (refine Qaf rfl rfl _ _ _ rfl w3.heap.size _ _ (AvC ⟨⟨prt0,v.cm.kd,v.id,tk,QaV⟩,.slice none 0 0⟩) (Blk.new w3 _ (AvC av0)) rfl rfl 24 Qa0 (Qak _) (Qak av0) (QaP _ _ _ _) ?_;intro w4 hb4 ho4
      have l4:=(Qaa w3 _).only ho4 (QCx _)
      have C4:=C3.fresh l4 (QCx _) hb4
      clear x0 x20 x4 y2
      obtain⟨x0,x20,x4⟩:=QbD (C4.nth 1 rfl))
   | (refine Qal ?hw _ _ rfl (w.heap.size+2) 4 (v.cm.ma.val.map W8) x4 rfl _ Tryz.underlying35 rfl (by rw[QCt,v.cm.ma.2];exact Qkf) ?_;(case hw=>rfl))
   | (refine Qaj rfl rfl _ _ _ rfl w3.heap.size 8 _ _ (v.cm.ma.val.map W8) (C4.nth 0 rfl) rfl rfl (by rw[QCt,v.cm.ma.2];exact Qkf) (by rw[Qak,QCt,v.cm.ma.2];omega) (QaE _) ?_;intro w5 hb5 ho5
      rw[Qlp]at hb5
      have C5:=C4.write 0 rfl ho5 hb5)
   | (refine Qal ?hw _ _ rfl w3.heap.size 0 (AvC ⟨⟨prt0,v.cm.kd,v.id,tk,v.cm.ma⟩,.slice none 0 0⟩) (fun j v hv=>by rw[QCI];exact hb5.cellD j hv) rfl _ Tryz.underlying37 rfl (by rw[Qak];exact Qa0) ?_;(case hw=>rfl))
   | (refine Qaf rfl rfl _ _ _ rfl (w.heap.size+1) _ _ (AvC ⟨⟨prt0,v.cm.kd,v.id,tk,v.cm.ma⟩,.slice none 0 0⟩) (C5.nth 2 rfl) rfl rfl 24 Qa0 (Qak _) rfl (QaP _ _ _ _) ?_;intro w6 hb6 ho6)
   | fail)
  exact bodyPost_ret (Qae rfl _ _ _ _ _ _ hb6 rfl Tryz.underlying37 rfl (by rw[Qak];exact Qa0)) rfl ⟨none,0,by rw[HE.out,HA.out];rfl,by rw[HA.out];exact Qay _ _ _,C5.lat.only ho6 (by omega)⟩
 have f4:(v.cm.kd==4)=false:=beq_eq_false_iff_ne.2 h4
 clear r4
 by_cases h23: ¬(v.cm.kd=2∨v.cm.kd=3)
 ·have h2:v.cm.kd≠2:=fun h=>h23 (.inl h)
  have h3:v.cm.kd≠3:=fun h=>h23 (.inr h)
  obtain⟨HE,HA⟩:=rf.out h4 h2 h3
  replace HE:=hid HE
  replace HA:=hid HA
  have f2:(v.cm.kd==2)=false:=beq_eq_false_iff_ne.2 h2
  have f3:(v.cm.kd==3)=false:=beq_eq_false_iff_ne.2 h3
  clear rf rb rt rg hPa hPd h4 h23 h2 h3
  go_enter Tryz.func12,Tryz.ntmps12
  go_wp2_with (first
   | (refine Qal ?hw _ _ rfl b0 (o+k*22) (VC v) hc rfl _ Tryz.underlying107 rfl (by rw[Qat];exact Qfi) ?_;(case hw=>rfl))
   | (refine Qaf rfl rfl _ _ _ rfl (w.heap.size+2) _ _ (VC v) (Blk.new' _ _ (VC vst0) hsz) rfl rfl 22 Qfi (Qat _) (Qat vst0) (QkH _) ?_;intro w3 hb3 ho3
      have l3:=Later.only (Qaa _ _) ho3 (QDR hsz)
      have C3:=C2.fresh l3 (QDR hsz) hb3
      obtain⟨x0,x20,x4⟩:=QbD hb3
      have y2:=(C3.nth 2 rfl).cellD 2 (u:=.int .i64 tk) rfl)
   | (refine Qah ?hw 37 _ rfl (AvC ⟨⟨prt0,v.cm.kd,v.id,tk,QaV⟩,.slice none 0 0⟩) (by simp only[QCA,QCR,QCC];exact hb1.out _ _ _) ?_;(case hw=>rfl))
   | (refine Qaf rfl rfl _ _ _ rfl w3.heap.size _ _ (AvC ⟨⟨prt0,v.cm.kd,v.id,tk,QaV⟩,.slice none 0 0⟩) (Blk.new w3 _ (AvC av0)) rfl rfl 24 Qa0 (Qak _) (Qak av0) (QaP _ _ _ _) ?_;intro w4 hb4 ho4
      have l4:=(Qaa w3 _).only ho4 (QCx _)
      have C4:=C3.fresh l4 (QCx _) hb4
      clear x0 x20 x4 y2
      obtain⟨x0,x20,x4⟩:=QbD (C4.nth 1 rfl)
      have y1:=(C4.nth 3 rfl).cellD 1 (u:=.slice B 480 e) rfl)
   | (refine Qah ?hw 37 _ rfl (AvC av0) (by simp only[QCA,QCC];exact hb0.out) ?_;(case hw=>rfl))
   | (refine Qaf rfl rfl _ _ _ rfl (w.heap.size+1) _ _ (AvC av0) (C4.nth 2 rfl) rfl rfl 24 Qa0 (Qak _) rfl (QaP _ _ _ _) ?_;intro w9 hb9 ho9)
   | fail)
  exact bodyPost_ret (Qae rfl _ _ _ _ _ _ hb9 rfl Tryz.underlying37 rfl (by rw[Qak];exact Qa0)) rfl ⟨none,0,by rw[HE.out,HA.out];rfl,by rw[HA.out];exact Qay _ _ _,C4.lat.only ho9 (by omega)⟩
 replace h23:=Classical.not_not.1 h23
 clear rf h4
 obtain⟨M,hM,hMM,hf⟩:∃M:UInt8,(if v.cm.kd=3 then 2 else 1)=M∧((M=1∧(v.cm.kd==2)=true)∨(M=2∧(v.cm.kd==2)=false∧(v.cm.kd==3)=true))∧True:=by
  rcases h23 with h|h
  ·exact⟨1,by rw[h];decide,.inl ⟨rfl,by rw[h];rfl⟩,trivial⟩
  ·exact⟨2,by rw[h];decide,.inr ⟨rfl,by rw[h];rfl,by rw[h];rfl⟩,trivial⟩
 replace rb:=hid (rb.out h23)
 replace rt:=hid (rt.out h23)
 replace rg:=hid (rg.out h23)
 rw[hM]at rt rg
 clear hM h23 hf
 rcases hMM with ⟨rfl,f2⟩|⟨rfl,f2,f3⟩
 ·go_enter Tryz.func12,Tryz.ntmps12
  go_wp2_with (first
   | (refine Qal ?hw _ _ rfl b0 (o+k*22) (VC v) hc rfl _ Tryz.underlying107 rfl (by rw[Qat];exact Qfi) ?_;(case hw=>rfl))
   | (refine Qaf rfl rfl _ _ _ rfl (w.heap.size+2) _ _ (VC v) (Blk.new' _ _ (VC vst0) hsz) rfl rfl 22 Qfi (Qat _) (Qat vst0) (QkH _) ?_;intro w3 hb3 ho3
      have l3:=Later.only (Qaa _ _) ho3 (QDR hsz)
      have C3:=C2.fresh l3 (QDR hsz) hb3
      obtain⟨x0,x20,x4⟩:=QbD hb3
      have y2:=(C3.nth 2 rfl).cellD 2 (u:=.int .i64 tk) rfl)
   | (refine Qah ?hw 37 _ rfl (AvC ⟨⟨prt0,v.cm.kd,v.id,tk,QaV⟩,.slice none 0 0⟩) (by simp only[QCA,QCR,QCC];exact hb1.out _ _ _) ?_;(case hw=>rfl))
   | (refine Qaf rfl rfl _ _ _ rfl w3.heap.size _ _ (AvC ⟨⟨prt0,v.cm.kd,v.id,tk,QaV⟩,.slice none 0 0⟩) (Blk.new w3 _ (AvC av0)) rfl rfl 24 Qa0 (Qak _) (Qak av0) (QaP _ _ _ _) ?_;intro w4 hb4 ho4
      have l4:=(Qaa w3 _).only ho4 (QCx _)
      have C4:=C3.fresh l4 (QCx _) hb4
      clear x0 x20 x4 y2
      obtain⟨x0,x20,x4⟩:=QbD (C4.nth 1 rfl)
      have y1:=(C4.nth 3 rfl).cellD 1 (u:=.slice B 480 e) rfl)
   | fail)
  refine (hPa.out w4 (hb.later C4.lat)).mono ?_
  rintro x5 w5 ⟨A5,c5,rfl,hown5,l5⟩
  clear x0 x20 x4 y1
  have C5:=C4.later l5
  by_cases hpe:PE=0
  case neg=>
   obtain⟨HE,HA⟩:=rb.out hpe
   replace HE:=hid HE
   replace HA:=hid HA
   have hp2:((PE:Int) != 0)=true:=bne_iff_ne.2 (by omega)
   clear rb rt rg hPa hpe
   go_wp2_with (first
   | (refine QaZ rfl rfl _ _ rfl (Blk.new w5 _ pz0) rfl rfl rfl rfl ?_;intro w6 hb6 ho6
      have l6:=(Qaa w5 _).only ho6 (QCx _)
      have C6:=C5.fresh l6 (QCx _) hb6)
   | (refine Qah ?hw 37 _ rfl (AvC av0) (by simp only[QCA,QCC];exact hb0.out) ?_;(case hw=>rfl))
   | (refine Qaf rfl rfl _ _ _ rfl (w.heap.size+1) _ _ (AvC av0) (C6.nth 3 rfl) rfl rfl 24 Qa0 (Qak _) rfl (QaP _ _ _ _) ?_;intro w9 hb9 ho9)
   | fail)
   exact bodyPost_ret (Qae rfl _ _ _ _ _ _ hb9 rfl Tryz.underlying37 rfl (by rw[Qak];exact Qa0)) rfl ⟨none,0,by rw[HE.out,HA.out];rfl,by rw[HA.out];exact Qay _ _ _,C6.lat.only ho9 (by omega)⟩
  replace rt:=hid (rt.out hpe)
  replace rg:=hid (rg.out hpe)
  subst hpe
  have hw34:=(C4.nth 0 rfl).lt
  have hw23:=(C3.nth 0 rfl).lt
  by_cases hk:P.kd=1
  case neg=>
   obtain⟨HE,HA⟩:=rt.out hk
   replace HE:=hid HE
   replace HA:=hid HA
   have fk:(P.kd != 1)=true:=bne_iff_ne.2 hk
   clear rb rt rg hPa hk
   go_wp2_with (first
   | (refine QaZ rfl rfl _ _ rfl (Blk.new w5 _ pz0) rfl rfl rfl rfl ?_;intro w6 hb6 ho6
      have l6:=(Qaa w5 _).only ho6 (QCx _)
      have C6:=C5.fresh l6 (QCx _) hb6
      have z0:=(C6.nth 0 rfl).cellD 0 (u:=W8 P.kd) rfl)
   | (refine Qah ?hw 37 _ rfl (AvC av0) (by simp only[QCA,QCC];exact hb0.out) ?_;(case hw=>rfl))
   | (refine Qaf rfl rfl _ _ _ rfl (w.heap.size+1) _ _ (AvC av0) (C6.nth 3 rfl) rfl rfl 24 Qa0 (Qak _) rfl (QaP _ _ _ _) ?_;intro w9 hb9 ho9)
   | fail)
   exact bodyPost_ret (Qae rfl _ _ _ _ _ _ hb9 rfl Tryz.underlying37 rfl (by rw[Qak];exact Qa0)) rfl ⟨none,0,by rw[HE.out,HA.out];rfl,by rw[HA.out];exact Qay _ _ _,C6.lat.only ho9 (by omega)⟩
  obtain⟨HE,HA⟩:=rg.out hk
  replace HE:=hid HE
  replace HA:=hid HA
  have fk:(P.kd != 1)=false:=bne_eq_false_iff_eq.2 hk
  clear rb rt rg hPa hk
  go_wp2_with (first
   | (refine QaZ rfl rfl _ _ rfl (Blk.new w5 _ pz0) rfl rfl rfl rfl ?_;intro w6 hb6 ho6
      have l6:=(Qaa w5 _).only ho6 (QCx _)
      have C6:=C5.fresh l6 (QCx _) hb6
      have z0:=(C6.nth 0 rfl).cellD 0 (u:=W8 P.kd) rfl)
   | (refine Qdb ?hw _ rfl (C6.nth 0 rfl) rfl ?_;(case hw=>rfl))
   | (refine Qaj rfl rfl _ _ _ rfl w3.heap.size 0 _ _ (PaC P (.slice A5 P.da.length c5)) (C6.nth 1 rfl) rfl rfl (by rw[QaD];exact Qcz) (by rw[Qak,QaD];omega) (Qgi _ rfl) ?_;intro w7 hb7 ho7
      rw[QhL]at hb7
      have C7:=C6.write 1 rfl ho7 hb7)
   | (refine Qal ?hw _ _ rfl w3.heap.size 0 (AvC ⟨⟨P,v.cm.kd,v.id,tk,QaV⟩,.slice A5 P.da.length c5⟩) (fun j v hv=>by rw[QCI];exact hb7.cellD j hv) rfl _ Tryz.underlying37 rfl (by rw[Qak];exact Qa0) ?_;(case hw=>rfl))
   | (refine Qaf rfl rfl _ _ _ rfl (w.heap.size+1) _ _ (AvC ⟨⟨P,v.cm.kd,v.id,tk,QaV⟩,.slice A5 P.da.length c5⟩) (C7.nth 3 rfl) rfl rfl 24 Qa0 (Qak _) rfl (QaP _ _ _ _) ?_;intro w9 hb9 ho9)
   | fail)
  have o6:=Qap hown5 l6
  have o7:=Qdj o6 ho7 (fun k hk=>.inl (by simp only[Option.some.injEq]at hk;omega))
  have o9:=Qdj o7 ho9 (fun k hk=>.inl (by simp only[Option.some.injEq]at hk;omega))
  exact bodyPost_ret (Qae rfl _ _ _ _ _ _ hb9 rfl Tryz.underlying37 rfl (by rw[Qak];exact Qa0)) rfl ⟨A5,c5,by rw[HE.out,HA.out];rfl,by rw[HA.out];exact Qbb o9 C4.lat.size,C7.lat.only ho9 (by omega)⟩
 ·go_enter Tryz.func12,Tryz.ntmps12
  go_wp2_with (first
   | (refine Qal ?hw _ _ rfl b0 (o+k*22) (VC v) hc rfl _ Tryz.underlying107 rfl (by rw[Qat];exact Qfi) ?_;(case hw=>rfl))
   | (refine Qaf rfl rfl _ _ _ rfl (w.heap.size+2) _ _ (VC v) (Blk.new' _ _ (VC vst0) hsz) rfl rfl 22 Qfi (Qat _) (Qat vst0) (QkH _) ?_;intro w3 hb3 ho3
      have l3:=Later.only (Qaa _ _) ho3 (QDR hsz)
      have C3:=C2.fresh l3 (QDR hsz) hb3
      obtain⟨x0,x20,x4⟩:=QbD hb3
      have y2:=(C3.nth 2 rfl).cellD 2 (u:=.int .i64 tk) rfl)
   | (refine Qah ?hw 37 _ rfl (AvC ⟨⟨prt0,v.cm.kd,v.id,tk,QaV⟩,.slice none 0 0⟩) (by simp only[QCA,QCR,QCC];exact hb1.out _ _ _) ?_;(case hw=>rfl))
   | (refine Qaf rfl rfl _ _ _ rfl w3.heap.size _ _ (AvC ⟨⟨prt0,v.cm.kd,v.id,tk,QaV⟩,.slice none 0 0⟩) (Blk.new w3 _ (AvC av0)) rfl rfl 24 Qa0 (Qak _) (Qak av0) (QaP _ _ _ _) ?_;intro w4 hb4 ho4
      have l4:=(Qaa w3 _).only ho4 (QCx _)
      have C4:=C3.fresh l4 (QCx _) hb4
      clear x0 x20 x4 y2
      obtain⟨x0,x20,x4⟩:=QbD (C4.nth 1 rfl)
      have y1:=(C4.nth 3 rfl).cellD 1 (u:=.slice B 480 e) rfl)
   | fail)
  refine (hPa.out w4 (hb.later C4.lat)).mono ?_
  rintro x5 w5 ⟨A5,c5,rfl,hown5,l5⟩
  clear x0 x20 x4 y1
  have C5:=C4.later l5
  by_cases hpe:PE=0
  case neg=>
   obtain⟨HE,HA⟩:=rb.out hpe
   replace HE:=hid HE
   replace HA:=hid HA
   have hp2:((PE:Int) != 0)=true:=bne_iff_ne.2 (by omega)
   clear rb rt rg hPa hpe
   go_wp2_with (first
   | (refine QaZ rfl rfl _ _ rfl (Blk.new w5 _ pz0) rfl rfl rfl rfl ?_;intro w6 hb6 ho6
      have l6:=(Qaa w5 _).only ho6 (QCx _)
      have C6:=C5.fresh l6 (QCx _) hb6)
   | (refine Qah ?hw 37 _ rfl (AvC av0) (by simp only[QCA,QCC];exact hb0.out) ?_;(case hw=>rfl))
   | (refine Qaf rfl rfl _ _ _ rfl (w.heap.size+1) _ _ (AvC av0) (C6.nth 3 rfl) rfl rfl 24 Qa0 (Qak _) rfl (QaP _ _ _ _) ?_;intro w9 hb9 ho9)
   | fail)
   exact bodyPost_ret (Qae rfl _ _ _ _ _ _ hb9 rfl Tryz.underlying37 rfl (by rw[Qak];exact Qa0)) rfl ⟨none,0,by rw[HE.out,HA.out];rfl,by rw[HA.out];exact Qay _ _ _,C6.lat.only ho9 (by omega)⟩
  replace rt:=hid (rt.out hpe)
  replace rg:=hid (rg.out hpe)
  subst hpe
  have hw34:=(C4.nth 0 rfl).lt
  have hw23:=(C3.nth 0 rfl).lt
  by_cases hk:P.kd=2
  case neg=>
   obtain⟨HE,HA⟩:=rt.out hk
   replace HE:=hid HE
   replace HA:=hid HA
   have fk:(P.kd != 2)=true:=bne_iff_ne.2 hk
   clear rb rt rg hPa hk
   go_wp2_with (first
   | (refine QaZ rfl rfl _ _ rfl (Blk.new w5 _ pz0) rfl rfl rfl rfl ?_;intro w6 hb6 ho6
      have l6:=(Qaa w5 _).only ho6 (QCx _)
      have C6:=C5.fresh l6 (QCx _) hb6
      have z0:=(C6.nth 0 rfl).cellD 0 (u:=W8 P.kd) rfl)
   | (refine Qah ?hw 37 _ rfl (AvC av0) (by simp only[QCA,QCC];exact hb0.out) ?_;(case hw=>rfl))
   | (refine Qaf rfl rfl _ _ _ rfl (w.heap.size+1) _ _ (AvC av0) (C6.nth 3 rfl) rfl rfl 24 Qa0 (Qak _) rfl (QaP _ _ _ _) ?_;intro w9 hb9 ho9)
   | fail)
   exact bodyPost_ret (Qae rfl _ _ _ _ _ _ hb9 rfl Tryz.underlying37 rfl (by rw[Qak];exact Qa0)) rfl ⟨none,0,by rw[HE.out,HA.out];rfl,by rw[HA.out];exact Qay _ _ _,C6.lat.only ho9 (by omega)⟩
  obtain⟨HE,HA⟩:=rg.out hk
  replace HE:=hid HE
  replace HA:=hid HA
  have fk:(P.kd != 2)=false:=bne_eq_false_iff_eq.2 hk
  clear rb rt rg hPa hk
  go_wp2_with (first
   | (refine QaZ rfl rfl _ _ rfl (Blk.new w5 _ pz0) rfl rfl rfl rfl ?_;intro w6 hb6 ho6
      have l6:=(Qaa w5 _).only ho6 (QCx _)
      have C6:=C5.fresh l6 (QCx _) hb6
      have z0:=(C6.nth 0 rfl).cellD 0 (u:=W8 P.kd) rfl)
   | (refine Qdb ?hw _ rfl (C6.nth 0 rfl) rfl ?_;(case hw=>rfl))
   | (refine Qaj rfl rfl _ _ _ rfl w3.heap.size 0 _ _ (PaC P (.slice A5 P.da.length c5)) (C6.nth 1 rfl) rfl rfl (by rw[QaD];exact Qcz) (by rw[Qak,QaD];omega) (Qgi _ rfl) ?_;intro w7 hb7 ho7
      rw[QhL]at hb7
      have C7:=C6.write 1 rfl ho7 hb7)
   | (refine Qal ?hw _ _ rfl w3.heap.size 0 (AvC ⟨⟨P,v.cm.kd,v.id,tk,QaV⟩,.slice A5 P.da.length c5⟩) (fun j v hv=>by rw[QCI];exact hb7.cellD j hv) rfl _ Tryz.underlying37 rfl (by rw[Qak];exact Qa0) ?_;(case hw=>rfl))
   | (refine Qaf rfl rfl _ _ _ rfl (w.heap.size+1) _ _ (AvC ⟨⟨P,v.cm.kd,v.id,tk,QaV⟩,.slice A5 P.da.length c5⟩) (C7.nth 3 rfl) rfl rfl 24 Qa0 (Qak _) rfl (QaP _ _ _ _) ?_;intro w9 hb9 ho9)
   | fail)
  have o6:=Qap hown5 l6
  have o7:=Qdj o6 ho7 (fun k hk=>.inl (by simp only[Option.some.injEq]at hk;omega))
  have o9:=Qdj o7 ho9 (fun k hk=>.inl (by simp only[Option.some.injEq]at hk;omega))
  exact bodyPost_ret (Qae rfl _ _ _ _ _ _ hb9 rfl Tryz.underlying37 rfl (by rw[Qak];exact Qa0)) rfl ⟨A5,c5,by rw[HE.out,HA.out];rfl,by rw[HA.out];exact Qbb o9 C4.lat.size,C7.lat.only ho9 (by omega)⟩
theorem Qr5:Tryz.prog.built 39 []=some (AvC av0).toArray:=by kernel_rfl
theorem QqV (kd:UInt8) (id:UInt64) (tk:Int):Tryz.prog.built 39 [(1,W8 kd),(2,W64 id),(3,.int .i64 tk)]=some (AvC ⟨⟨prt0,kd,id,tk,QaV⟩,.slice none 0 0⟩).toArray:=by kernel_rfl
theorem Qbl:(Tryz.prog.info? 39).map (·.size)=some 24:=by kernel_rfl
set_option maxRecDepth 100000 in
set_option maxHeartbeats 40000000 in
theorem Qun (A B:Option Addr) (n c m e:Nat) (vs:List Vst) (b:List UInt8) (tk:Int) (w:World) (hv:RdF VC 22 vst0 w A n vs) (hn:n≤1048576) (hb:RdB w B m b) (hme:m≤e):
 Calls Tryz.prog 17 #[.agg #[.slice A n c,.slice B m e,.int .i64 tk]] w fun x w'=>∃A' c',x= .returned (.tuple #[.agg (AvC ⟨arvA vs b tk,.slice A' (arvA vs b tk).pt.da.length c'⟩).toArray,.int .i64 (arvE vs b:Nat)])∧
  OwnB w' w.heap.size A' (arvA vs b tk).pt.da.length c' (arvA vs b tk).pt.da∧Later w w':=by
 have hvl:=hv.1
 have hbl:=hb.len
 have C1:=Qa8 w 61 [.slice A n c,.slice B m e,.int .i64 tk]
 have C2:=C1.add (Qaa _ (.cells az0.toArray 39)) (k:=w.heap.size+1) (by simp) (by omega) (Blk.new' _ _ az0 (by simp))
 have q0:=(C2.nth 1 rfl).cellD 0 (u:=.slice A n c) rfl
 have q1:=(C2.nth 1 rfl).cellD 1 (u:=.slice B m e) rfl
 have q2:=(C2.nth 1 rfl).cellD 2 (u:=.int .i64 tk) rfl
 have hb0:=hid Qr5
 have hb1:=hid QqV
 by_cases hn0:n=0
 ·subst hn0
  obtain⟨HE,HA⟩:=QhH (vs:=vs) (b:=b) tk (.inl hvl)
  replace HE:=hid HE
  replace HA:=hid HA
  go_enter Tryz.func17,Tryz.ntmps17
  go_wp2_with (first
   | (refine Qah ?hw 39 _ rfl (AvC av0) (by simp only[QCA,QCC];exact hb0.out) ?_;(case hw=>rfl))
   | (refine Qaf rfl rfl _ _ _ rfl (w.heap.size+1) _ _ (AvC av0) (C2.nth 0 rfl) rfl rfl 24 Qbl (Qak _) rfl (QaP _ _ _ _) ?_;intro w5 hb5 ho5)
   | fail)
  exact bodyPost_ret (Qae rfl _ _ _ _ _ _ hb5 rfl Tryz.underlying39 rfl (by rw[Qak];exact Qbl)) rfl ⟨none,0,by rw[HE.out,HA.out];rfl,by rw[HA.out];exact Qay _ _ _,C2.lat.only ho5 (by omega)⟩
 obtain⟨k,rfl⟩:∃k,n=k+1:=⟨n-1,by omega⟩
 have hne:((k:Int)+1==0)=false:=beq_eq_false_iff_ne.2 (by omega)
 by_cases hm:m≠480
 ·have hm2:((m:Int) != 480)=true:=bne_iff_ne.2 (by omega)
  obtain⟨HE,HA⟩:=QhH (vs:=vs) (b:=b) tk (.inr (by rw[hbl];exact hm))
  replace HE:=hid HE
  replace HA:=hid HA
  go_enter Tryz.func17,Tryz.ntmps17
  go_wp2_with (first
   | (refine Qah ?hw 39 _ rfl (AvC av0) (by simp only[QCA,QCC];exact hb0.out) ?_;(case hw=>rfl))
   | (refine Qaf rfl rfl _ _ _ rfl (w.heap.size+1) _ _ (AvC av0) (C2.nth 0 rfl) rfl rfl 24 Qbl (Qak _) rfl (QaP _ _ _ _) ?_;intro w5 hb5 ho5)
   | fail)
  exact bodyPost_ret (Qae rfl _ _ _ _ _ _ hb5 rfl Tryz.underlying39 rfl (by rw[Qak];exact Qbl)) rfl ⟨none,0,by rw[HE.out,HA.out];rfl,by rw[HA.out];exact Qay _ _ _,C2.lat.only ho5 (by omega)⟩
 obtain rfl:m=480:=Classical.not_not.1 hm
 have hS: ¬(vs.length=0∨b.length≠480):=by omega
 obtain⟨b0,o,rfl,hb00,hc⟩:=(hv.later C2.lat).at_ (k:=k) (by omega)
 have hlv:vs.getD k vst0=QcG vs:=by rw[QcG,hvl];rfl
 rw[hlv]at hc
 have r4:=hid (fun h=>Ql1 (vs:=vs) (b:=b) tk hS h)
 have rf:=hid (fun h1 h2 h3=>QnY (vs:=vs) (b:=b) tk hS h1 h2 h3)
 have rb:=hid (fun h1 h2=>QrB (vs:=vs) (b:=b) tk hS h1 h2)
 have rt:=hid (fun h1 h2 h3=>Qoz (vs:=vs) (b:=b) tk hS h1 h2 h3)
 have rg:=hid (fun h1 h2 h3=>Qo0 (vs:=vs) (b:=b) tk hS h1 h2 h3)
 have hPa:=hid (fun w h=>Qpm B e b w h hme)
 have hPd:Hid (parE b≠0→parP b=prt0):=hid (fun h=>by rw[parP,if_neg h])
 generalize arvE vs b=E at *
 generalize arvA vs b tk=R at *
 generalize QcG vs=v at *
 generalize parE b=PE at *
 generalize parP b=P at *
 clear hlv hS hm hn0 hvl
 have hsz:((w.alloc (.cells [.slice (some ⟨b0,o,none⟩) (k+1) c,.slice B 480 e,.int .i64 tk].toArray 61)).alloc (.cells az0.toArray 39)).heap.size=w.heap.size+2:=by simp
 by_cases h4:v.cm.kd=4
 ·obtain⟨HE,HA⟩:=r4.out h4
  replace HE:=hid HE
  replace HA:=hid HA
  have f4:(v.cm.kd==4)=true:=by rw[h4];rfl
  clear r4 rf rb rt rg hPa hPd h4
  go_enter Tryz.func17,Tryz.ntmps17
  go_wp2_with (first
   | (refine Qal ?hw _ _ rfl b0 (o+k*22) (VC v) hc rfl _ Tryz.underlying120 rfl (by rw[Qat];exact Qe3) ?_;(case hw=>rfl))
   | (refine Qaf rfl rfl _ _ _ rfl (w.heap.size+2) _ _ (VC v) (Blk.new' _ _ (VC vst0) hsz) rfl rfl 22 Qe3 (Qat _) (Qat vst0) (QeB _) ?_;intro w3 hb3 ho3
      have l3:=Later.only (Qaa _ _) ho3 (QDR hsz)
      have C3:=C2.fresh l3 (QDR hsz) hb3
      obtain⟨x0,x20,x4⟩:=QbD hb3
      have y2:=(C3.nth 2 rfl).cellD 2 (u:=.int .i64 tk) rfl)
   | (refine Qah ?hw 39 _ rfl (AvC ⟨⟨prt0,v.cm.kd,v.id,tk,QaV⟩,.slice none 0 0⟩) (by simp only[QCA,QCR,QCC];exact hb1.out _ _ _) ?_;(case hw=>rfl))
   | (refine Qaf rfl rfl _ _ _ rfl w3.heap.size _ _ (AvC ⟨⟨prt0,v.cm.kd,v.id,tk,QaV⟩,.slice none 0 0⟩) (Blk.new w3 _ (AvC av0)) rfl rfl 24 Qbl (Qak _) (Qak av0) (QaP _ _ _ _) ?_;intro w4 hb4 ho4
      have l4:=(Qaa w3 _).only ho4 (QCx _)
      have C4:=C3.fresh l4 (QCx _) hb4
      clear x0 x20 x4 y2
      obtain⟨x0,x20,x4⟩:=QbD (C4.nth 1 rfl)
      have a5:=(C4.nth 0 rfl).cellD 5 (u:=W8 v.cm.kd) rfl)
   | (refine Qal ?hw _ _ rfl (w.heap.size+2) 4 (v.cm.ma.val.map W8) x4 rfl _ Tryz.underlying35 rfl (by rw[QCt,v.cm.ma.2];exact Qkf) ?_;(case hw=>rfl))
   | (refine Qaj rfl rfl _ _ _ rfl w3.heap.size 8 _ _ (v.cm.ma.val.map W8) (C4.nth 0 rfl) rfl rfl (by rw[QCt,v.cm.ma.2];exact Qkf) (by rw[Qak,QCt,v.cm.ma.2];omega) (QaE _) ?_;intro w5 hb5 ho5
      rw[Qlp]at hb5
      have C5:=C4.write 0 rfl ho5 hb5)
   | (refine Qal ?hw _ _ rfl w3.heap.size 0 (AvC ⟨⟨prt0,v.cm.kd,v.id,tk,v.cm.ma⟩,.slice none 0 0⟩) (fun j v hv=>by rw[QCI];exact hb5.cellD j hv) rfl _ Tryz.underlying39 rfl (by rw[Qak];exact Qbl) ?_;(case hw=>rfl))
   | (refine Qaf rfl rfl _ _ _ rfl (w.heap.size+1) _ _ (AvC ⟨⟨prt0,v.cm.kd,v.id,tk,v.cm.ma⟩,.slice none 0 0⟩) (C5.nth 2 rfl) rfl rfl 24 Qbl (Qak _) rfl (QaP _ _ _ _) ?_;intro w6 hb6 ho6)
   | fail)
  exact bodyPost_ret (Qae rfl _ _ _ _ _ _ hb6 rfl Tryz.underlying39 rfl (by rw[Qak];exact Qbl)) rfl ⟨none,0,by rw[HE.out,HA.out];rfl,by rw[HA.out];exact Qay _ _ _,C5.lat.only ho6 (by omega)⟩
 have f4:(v.cm.kd==4)=false:=beq_eq_false_iff_ne.2 h4
 clear r4
 by_cases h23: ¬(v.cm.kd=2∨v.cm.kd=3)
 ·have h2:v.cm.kd≠2:=fun h=>h23 (.inl h)
  have h3:v.cm.kd≠3:=fun h=>h23 (.inr h)
  obtain⟨HE,HA⟩:=rf.out h4 h2 h3
  replace HE:=hid HE
  replace HA:=hid HA
  have f2:(v.cm.kd != 2)=true:=bne_iff_ne.2 h2
  have f3:(v.cm.kd != 3)=true:=bne_iff_ne.2 h3
  clear rf rb rt rg hPa hPd h4 h23 h2 h3
  go_enter Tryz.func17,Tryz.ntmps17
  go_wp2_with (first
   | (refine Qal ?hw _ _ rfl b0 (o+k*22) (VC v) hc rfl _ Tryz.underlying120 rfl (by rw[Qat];exact Qe3) ?_;(case hw=>rfl))
   | (refine Qaf rfl rfl _ _ _ rfl (w.heap.size+2) _ _ (VC v) (Blk.new' _ _ (VC vst0) hsz) rfl rfl 22 Qe3 (Qat _) (Qat vst0) (QeB _) ?_;intro w3 hb3 ho3
      have l3:=Later.only (Qaa _ _) ho3 (QDR hsz)
      have C3:=C2.fresh l3 (QDR hsz) hb3
      obtain⟨x0,x20,x4⟩:=QbD hb3
      have y2:=(C3.nth 2 rfl).cellD 2 (u:=.int .i64 tk) rfl)
   | (refine Qah ?hw 39 _ rfl (AvC ⟨⟨prt0,v.cm.kd,v.id,tk,QaV⟩,.slice none 0 0⟩) (by simp only[QCA,QCR,QCC];exact hb1.out _ _ _) ?_;(case hw=>rfl))
   | (refine Qaf rfl rfl _ _ _ rfl w3.heap.size _ _ (AvC ⟨⟨prt0,v.cm.kd,v.id,tk,QaV⟩,.slice none 0 0⟩) (Blk.new w3 _ (AvC av0)) rfl rfl 24 Qbl (Qak _) (Qak av0) (QaP _ _ _ _) ?_;intro w4 hb4 ho4
      have l4:=(Qaa w3 _).only ho4 (QCx _)
      have C4:=C3.fresh l4 (QCx _) hb4
      clear x0 x20 x4 y2
      obtain⟨x0,x20,x4⟩:=QbD (C4.nth 1 rfl)
      have a5:=(C4.nth 0 rfl).cellD 5 (u:=W8 v.cm.kd) rfl
      have y1:=(C4.nth 3 rfl).cellD 1 (u:=.slice B 480 e) rfl)
   | (refine Qah ?hw 39 _ rfl (AvC av0) (by simp only[QCA,QCC];exact hb0.out) ?_;(case hw=>rfl))
   | (refine Qaf rfl rfl _ _ _ rfl (w.heap.size+1) _ _ (AvC av0) (C4.nth 2 rfl) rfl rfl 24 Qbl (Qak _) rfl (QaP _ _ _ _) ?_;intro w9 hb9 ho9)
   | fail)
  exact bodyPost_ret (Qae rfl _ _ _ _ _ _ hb9 rfl Tryz.underlying39 rfl (by rw[Qak];exact Qbl)) rfl ⟨none,0,by rw[HE.out,HA.out];rfl,by rw[HA.out];exact Qay _ _ _,C4.lat.only ho9 (by omega)⟩
 replace h23:=Classical.not_not.1 h23
 clear rf h4
 obtain⟨M,hM,hMM,hf⟩:∃M:UInt8,(if v.cm.kd=3 then 2 else 1)=M∧((M=1∧(v.cm.kd != 2)=false∧(v.cm.kd==2)=true∧(v.cm.kd==3)=false)∨(M=2∧(v.cm.kd != 2)=true∧(v.cm.kd != 3)=false∧(v.cm.kd==2)=false∧(v.cm.kd==3)=true))∧True:=by
  rcases h23 with h|h
  ·exact⟨1,by rw[h];decide,.inl ⟨rfl,by rw[h];rfl,by rw[h];rfl,by rw[h];rfl⟩,trivial⟩
  ·exact⟨2,by rw[h];decide,.inr ⟨rfl,by rw[h];rfl,by rw[h];rfl,by rw[h];rfl,by rw[h];rfl⟩,trivial⟩
 replace rb:=hid (rb.out h23)
 replace rt:=hid (rt.out h23)
 replace rg:=hid (rg.out h23)
 rw[hM]at rt rg
 clear hM h23 hf
 rcases hMM with ⟨rfl,f2,f5,f6⟩|⟨rfl,f2,f3,f5,f6⟩
 ·go_enter Tryz.func17,Tryz.ntmps17
  go_wp2_with (first
   | (refine Qal ?hw _ _ rfl b0 (o+k*22) (VC v) hc rfl _ Tryz.underlying120 rfl (by rw[Qat];exact Qe3) ?_;(case hw=>rfl))
   | (refine Qaf rfl rfl _ _ _ rfl (w.heap.size+2) _ _ (VC v) (Blk.new' _ _ (VC vst0) hsz) rfl rfl 22 Qe3 (Qat _) (Qat vst0) (QeB _) ?_;intro w3 hb3 ho3
      have l3:=Later.only (Qaa _ _) ho3 (QDR hsz)
      have C3:=C2.fresh l3 (QDR hsz) hb3
      obtain⟨x0,x20,x4⟩:=QbD hb3
      have y2:=(C3.nth 2 rfl).cellD 2 (u:=.int .i64 tk) rfl)
   | (refine Qah ?hw 39 _ rfl (AvC ⟨⟨prt0,v.cm.kd,v.id,tk,QaV⟩,.slice none 0 0⟩) (by simp only[QCA,QCR,QCC];exact hb1.out _ _ _) ?_;(case hw=>rfl))
   | (refine Qaf rfl rfl _ _ _ rfl w3.heap.size _ _ (AvC ⟨⟨prt0,v.cm.kd,v.id,tk,QaV⟩,.slice none 0 0⟩) (Blk.new w3 _ (AvC av0)) rfl rfl 24 Qbl (Qak _) (Qak av0) (QaP _ _ _ _) ?_;intro w4 hb4 ho4
      have l4:=(Qaa w3 _).only ho4 (QCx _)
      have C4:=C3.fresh l4 (QCx _) hb4
      clear x0 x20 x4 y2
      obtain⟨x0,x20,x4⟩:=QbD (C4.nth 1 rfl)
      have a5:=(C4.nth 0 rfl).cellD 5 (u:=W8 v.cm.kd) rfl
      have y1:=(C4.nth 3 rfl).cellD 1 (u:=.slice B 480 e) rfl)
   | fail)
  refine (hPa.out w4 (hb.later C4.lat)).mono ?_
  rintro x5 w5 ⟨A5,c5,rfl,hown5,l5⟩
  clear x0 x20 x4 y1 a5
  have C5:=C4.later l5
  by_cases hpe:PE=0
  case neg=>
   obtain⟨HE,HA⟩:=rb.out hpe
   replace HE:=hid HE
   replace HA:=hid HA
   have hp2:((PE:Int) != 0)=true:=bne_iff_ne.2 (by omega)
   clear rb rt rg hPa hpe
   go_wp2_with (first
   | (refine QaZ rfl rfl _ _ rfl (Blk.new w5 _ pz0) rfl rfl rfl rfl ?_;intro w6 hb6 ho6
      have l6:=(Qaa w5 _).only ho6 (QCx _)
      have C6:=C5.fresh l6 (QCx _) hb6)
   | (refine Qah ?hw 39 _ rfl (AvC av0) (by simp only[QCA,QCC];exact hb0.out) ?_;(case hw=>rfl))
   | (refine Qaf rfl rfl _ _ _ rfl (w.heap.size+1) _ _ (AvC av0) (C6.nth 3 rfl) rfl rfl 24 Qbl (Qak _) rfl (QaP _ _ _ _) ?_;intro w9 hb9 ho9)
   | fail)
   exact bodyPost_ret (Qae rfl _ _ _ _ _ _ hb9 rfl Tryz.underlying39 rfl (by rw[Qak];exact Qbl)) rfl ⟨none,0,by rw[HE.out,HA.out];rfl,by rw[HA.out];exact Qay _ _ _,C6.lat.only ho9 (by omega)⟩
  replace rt:=hid (rt.out hpe)
  replace rg:=hid (rg.out hpe)
  subst hpe
  have hw34:=(C4.nth 0 rfl).lt
  have hw23:=(C3.nth 0 rfl).lt
  by_cases hk:P.kd=1
  case neg=>
   obtain⟨HE,HA⟩:=rt.out hk
   replace HE:=hid HE
   replace HA:=hid HA
   have p1:(P.kd==1)=false:=beq_eq_false_iff_ne.2 hk
   clear rb rt rg hPa hk
   go_wp2_with (first
   | (refine QaZ rfl rfl _ _ rfl (Blk.new w5 _ pz0) rfl rfl rfl rfl ?_;intro w6 hb6 ho6
      have l6:=(Qaa w5 _).only ho6 (QCx _)
      have C6:=C5.fresh l6 (QCx _) hb6
      have a6:=(C6.nth 1 rfl).cellD 5 (u:=W8 v.cm.kd) rfl
      have z0:=(C6.nth 0 rfl).cellD 0 (u:=W8 P.kd) rfl)
   | (refine Qah ?hw 39 _ rfl (AvC av0) (by simp only[QCA,QCC];exact hb0.out) ?_;(case hw=>rfl))
   | (refine Qaf rfl rfl _ _ _ rfl (w.heap.size+1) _ _ (AvC av0) (C6.nth 3 rfl) rfl rfl 24 Qbl (Qak _) rfl (QaP _ _ _ _) ?_;intro w9 hb9 ho9)
   | fail)
   exact bodyPost_ret (Qae rfl _ _ _ _ _ _ hb9 rfl Tryz.underlying39 rfl (by rw[Qak];exact Qbl)) rfl ⟨none,0,by rw[HE.out,HA.out];rfl,by rw[HA.out];exact Qay _ _ _,C6.lat.only ho9 (by omega)⟩
  obtain⟨HE,HA⟩:=rg.out hk
  replace HE:=hid HE
  replace HA:=hid HA
  have p1:(P.kd==1)=true:=beq_iff_eq.2 hk
  have p2:(P.kd==2)=false:=by rw[hk];rfl
  clear rb rt rg hPa hk
  go_wp2_with (first
   | (refine QaZ rfl rfl _ _ rfl (Blk.new w5 _ pz0) rfl rfl rfl rfl ?_;intro w6 hb6 ho6
      have l6:=(Qaa w5 _).only ho6 (QCx _)
      have C6:=C5.fresh l6 (QCx _) hb6
      have a6:=(C6.nth 1 rfl).cellD 5 (u:=W8 v.cm.kd) rfl
      have z0:=(C6.nth 0 rfl).cellD 0 (u:=W8 P.kd) rfl)
   | (refine Qdb ?hw _ rfl (C6.nth 0 rfl) rfl ?_;(case hw=>rfl))
   | (refine Qaj rfl rfl _ _ _ rfl w3.heap.size 0 _ _ (PaC P (.slice A5 P.da.length c5)) (C6.nth 1 rfl) rfl rfl (by rw[QaD];exact Qcz) (by rw[Qak,QaD];omega) (Qgi _ rfl) ?_;intro w7 hb7 ho7
      rw[QhL]at hb7
      have C7:=C6.write 1 rfl ho7 hb7)
   | (refine Qal ?hw _ _ rfl w3.heap.size 0 (AvC ⟨⟨P,v.cm.kd,v.id,tk,QaV⟩,.slice A5 P.da.length c5⟩) (fun j v hv=>by rw[QCI];exact hb7.cellD j hv) rfl _ Tryz.underlying39 rfl (by rw[Qak];exact Qbl) ?_;(case hw=>rfl))
   | (refine Qaf rfl rfl _ _ _ rfl (w.heap.size+1) _ _ (AvC ⟨⟨P,v.cm.kd,v.id,tk,QaV⟩,.slice A5 P.da.length c5⟩) (C7.nth 3 rfl) rfl rfl 24 Qbl (Qak _) rfl (QaP _ _ _ _) ?_;intro w9 hb9 ho9)
   | fail)
  have o6:=Qap hown5 l6
  have o7:=Qdj o6 ho7 (fun k hk=>.inl (by simp only[Option.some.injEq]at hk;omega))
  have o9:=Qdj o7 ho9 (fun k hk=>.inl (by simp only[Option.some.injEq]at hk;omega))
  exact bodyPost_ret (Qae rfl _ _ _ _ _ _ hb9 rfl Tryz.underlying39 rfl (by rw[Qak];exact Qbl)) rfl ⟨A5,c5,by rw[HE.out,HA.out];rfl,by rw[HA.out];exact Qbb o9 C4.lat.size,C7.lat.only ho9 (by omega)⟩
 ·go_enter Tryz.func17,Tryz.ntmps17
  go_wp2_with (first
   | (refine Qal ?hw _ _ rfl b0 (o+k*22) (VC v) hc rfl _ Tryz.underlying120 rfl (by rw[Qat];exact Qe3) ?_;(case hw=>rfl))
   | (refine Qaf rfl rfl _ _ _ rfl (w.heap.size+2) _ _ (VC v) (Blk.new' _ _ (VC vst0) hsz) rfl rfl 22 Qe3 (Qat _) (Qat vst0) (QeB _) ?_;intro w3 hb3 ho3
      have l3:=Later.only (Qaa _ _) ho3 (QDR hsz)
      have C3:=C2.fresh l3 (QDR hsz) hb3
      obtain⟨x0,x20,x4⟩:=QbD hb3
      have y2:=(C3.nth 2 rfl).cellD 2 (u:=.int .i64 tk) rfl)
   | (refine Qah ?hw 39 _ rfl (AvC ⟨⟨prt0,v.cm.kd,v.id,tk,QaV⟩,.slice none 0 0⟩) (by simp only[QCA,QCR,QCC];exact hb1.out _ _ _) ?_;(case hw=>rfl))
   | (refine Qaf rfl rfl _ _ _ rfl w3.heap.size _ _ (AvC ⟨⟨prt0,v.cm.kd,v.id,tk,QaV⟩,.slice none 0 0⟩) (Blk.new w3 _ (AvC av0)) rfl rfl 24 Qbl (Qak _) (Qak av0) (QaP _ _ _ _) ?_;intro w4 hb4 ho4
      have l4:=(Qaa w3 _).only ho4 (QCx _)
      have C4:=C3.fresh l4 (QCx _) hb4
      clear x0 x20 x4 y2
      obtain⟨x0,x20,x4⟩:=QbD (C4.nth 1 rfl)
      have a5:=(C4.nth 0 rfl).cellD 5 (u:=W8 v.cm.kd) rfl
      have y1:=(C4.nth 3 rfl).cellD 1 (u:=.slice B 480 e) rfl)
   | fail)
  refine (hPa.out w4 (hb.later C4.lat)).mono ?_
  rintro x5 w5 ⟨A5,c5,rfl,hown5,l5⟩
  clear x0 x20 x4 y1 a5
  have C5:=C4.later l5
  by_cases hpe:PE=0
  case neg=>
   obtain⟨HE,HA⟩:=rb.out hpe
   replace HE:=hid HE
   replace HA:=hid HA
   have hp2:((PE:Int) != 0)=true:=bne_iff_ne.2 (by omega)
   clear rb rt rg hPa hpe
   go_wp2_with (first
   | (refine QaZ rfl rfl _ _ rfl (Blk.new w5 _ pz0) rfl rfl rfl rfl ?_;intro w6 hb6 ho6
      have l6:=(Qaa w5 _).only ho6 (QCx _)
      have C6:=C5.fresh l6 (QCx _) hb6)
   | (refine Qah ?hw 39 _ rfl (AvC av0) (by simp only[QCA,QCC];exact hb0.out) ?_;(case hw=>rfl))
   | (refine Qaf rfl rfl _ _ _ rfl (w.heap.size+1) _ _ (AvC av0) (C6.nth 3 rfl) rfl rfl 24 Qbl (Qak _) rfl (QaP _ _ _ _) ?_;intro w9 hb9 ho9)
   | fail)
   exact bodyPost_ret (Qae rfl _ _ _ _ _ _ hb9 rfl Tryz.underlying39 rfl (by rw[Qak];exact Qbl)) rfl ⟨none,0,by rw[HE.out,HA.out];rfl,by rw[HA.out];exact Qay _ _ _,C6.lat.only ho9 (by omega)⟩
  replace rt:=hid (rt.out hpe)
  replace rg:=hid (rg.out hpe)
  subst hpe
  have hw34:=(C4.nth 0 rfl).lt
  have hw23:=(C3.nth 0 rfl).lt
  by_cases hk:P.kd=2
  case neg=>
   obtain⟨HE,HA⟩:=rt.out hk
   replace HE:=hid HE
   replace HA:=hid HA
   have p2:(P.kd==2)=false:=beq_eq_false_iff_ne.2 hk
   clear rb rt rg hPa hk
   obtain⟨pb,p1⟩:∃pb,(P.kd==1)=pb:=⟨_,rfl⟩
   cases pb
   all_goals
    go_wp2_with (first
    | (refine QaZ rfl rfl _ _ rfl (Blk.new w5 _ pz0) rfl rfl rfl rfl ?_;intro w6 hb6 ho6
       have l6:=(Qaa w5 _).only ho6 (QCx _)
       have C6:=C5.fresh l6 (QCx _) hb6
       have a6:=(C6.nth 1 rfl).cellD 5 (u:=W8 v.cm.kd) rfl
       have z0:=(C6.nth 0 rfl).cellD 0 (u:=W8 P.kd) rfl)
    | (refine Qah ?hw 39 _ rfl (AvC av0) (by simp only[QCA,QCC];exact hb0.out) ?_;(case hw=>rfl))
    | (refine Qaf rfl rfl _ _ _ rfl (w.heap.size+1) _ _ (AvC av0) (C6.nth 3 rfl) rfl rfl 24 Qbl (Qak _) rfl (QaP _ _ _ _) ?_;intro w9 hb9 ho9)
    | fail)
    exact bodyPost_ret (Qae rfl _ _ _ _ _ _ hb9 rfl Tryz.underlying39 rfl (by rw[Qak];exact Qbl)) rfl ⟨none,0,by rw[HE.out,HA.out];rfl,by rw[HA.out];exact Qay _ _ _,C6.lat.only ho9 (by omega)⟩
  obtain⟨HE,HA⟩:=rg.out hk
  replace HE:=hid HE
  replace HA:=hid HA
  have p1:(P.kd==1)=false:=by rw[hk];rfl
  have p2:(P.kd==2)=true:=beq_iff_eq.2 hk
  clear rb rt rg hPa hk
  go_wp2_with (first
   | (refine QaZ rfl rfl _ _ rfl (Blk.new w5 _ pz0) rfl rfl rfl rfl ?_;intro w6 hb6 ho6
      have l6:=(Qaa w5 _).only ho6 (QCx _)
      have C6:=C5.fresh l6 (QCx _) hb6
      have a6:=(C6.nth 1 rfl).cellD 5 (u:=W8 v.cm.kd) rfl
      have z0:=(C6.nth 0 rfl).cellD 0 (u:=W8 P.kd) rfl)
   | (refine Qdb ?hw _ rfl (C6.nth 0 rfl) rfl ?_;(case hw=>rfl))
   | (refine Qaj rfl rfl _ _ _ rfl w3.heap.size 0 _ _ (PaC P (.slice A5 P.da.length c5)) (C6.nth 1 rfl) rfl rfl (by rw[QaD];exact Qcz) (by rw[Qak,QaD];omega) (Qgi _ rfl) ?_;intro w7 hb7 ho7
      rw[QhL]at hb7
      have C7:=C6.write 1 rfl ho7 hb7)
   | (refine Qal ?hw _ _ rfl w3.heap.size 0 (AvC ⟨⟨P,v.cm.kd,v.id,tk,QaV⟩,.slice A5 P.da.length c5⟩) (fun j v hv=>by rw[QCI];exact hb7.cellD j hv) rfl _ Tryz.underlying39 rfl (by rw[Qak];exact Qbl) ?_;(case hw=>rfl))
   | (refine Qaf rfl rfl _ _ _ rfl (w.heap.size+1) _ _ (AvC ⟨⟨P,v.cm.kd,v.id,tk,QaV⟩,.slice A5 P.da.length c5⟩) (C7.nth 3 rfl) rfl rfl 24 Qbl (Qak _) rfl (QaP _ _ _ _) ?_;intro w9 hb9 ho9)
   | fail)
  have o6:=Qap hown5 l6
  have o7:=Qdj o6 ho7 (fun k hk=>.inl (by simp only[Option.some.injEq]at hk;omega))
  have o9:=Qdj o7 ho9 (fun k hk=>.inl (by simp only[Option.some.injEq]at hk;omega))
  exact bodyPost_ret (Qae rfl _ _ _ _ _ _ hb9 rfl Tryz.underlying39 rfl (by rw[Qak];exact Qbl)) rfl ⟨A5,c5,by rw[HE.out,HA.out];rfl,by rw[HA.out];exact Qbb o9 C4.lat.size,C7.lat.only ho9 (by omega)⟩
theorem QlC {w:World} {g:Nat} {t:TypeId} {ar:Arr} {v:Value} (h:Blk w g t (AvC ⟨ar,v⟩)):
 w.cell? ⟨g,1,none⟩=some (W64 ar.pt.id)∧w.cell? ⟨g,2,none⟩=some (.int .i64 ar.pt.ix)∧w.cell? ⟨g,5,none⟩=some (W8 ar.kd)∧w.cell? ⟨g,6,none⟩=some (W64 ar.to)∧w.cell? ⟨g,7,none⟩=some (.int .i64 ar.tk)∧∀j u,(ar.ma.val.map W8)[j]?=some u→w.cell? ⟨g,8+j,none⟩=some u:=
 ⟨h.cellD 1 rfl,h.cellD 2 rfl,h.cellD 5 rfl,h.cellD 6 rfl,h.cellD 7 rfl,fun j u hu=>h.cellD (8+j) (by
   rw[AvC,QCF (by simp[PaC];omega),show 8+j-(PaC ar.pt v).length=j+1+1+1 by simp[PaC];omega]
   simpa using hu)⟩
set_option maxRecDepth 100000 in
set_option maxHeartbeats 4000000 in
theorem Qya (ar:Arr) (A B:Option Addr) (n c d:Nat) (w:World) (hx:RdB w A n ar.pt.da) (hy:RdB w B n ar.pt.da) (hn:n≤1048576):
 Calls Tryz.prog 8 #[.agg (AvC ⟨ar,.slice A n c⟩).toArray,.agg (AvC ⟨ar,.slice B n d⟩).toArray] w fun e w'=>e= .returned (.bool true)∧Later w w':=by
 have C1:=Qa8 w 37 (AvC ⟨ar,.slice A n c⟩)
 have C2:=C1.add (Qaa _ (.cells (AvC ⟨ar,.slice B n d⟩).toArray 39)) (k:=w.heap.size+1) (by simp) (by omega) (Blk.new' _ _ (AvC ⟨ar,.slice B n d⟩) (by simp))
 go_enter Tryz.func8,Tryz.ntmps8
 go_wp2_with (first
  | (refine Qal ?hw _ _ rfl w.heap.size 0 (PaC ar.pt (.slice A n c)) (fun j v hv=>(C2.nth 1 rfl).cellD (0+j) (Qor _ _ j v hv)) rfl _ Tryz.underlying34 rfl (by rw[QaD];exact Qcz) ?_;(case hw=>rfl))
  | (refine Qal ?hw _ _ rfl (w.heap.size+1) 0 (PaC ar.pt (.slice B n d)) (fun j v hv=>(C2.nth 0 rfl).cellD (0+j) (Qor _ _ j v hv)) rfl _ Tryz.underlying34 rfl (by rw[QaD];exact Qcz) ?_;(case hw=>rfl))
  | fail)
 refine (Qnw ar.pt A B n c d _ (hx.later C2.lat) (hy.later C2.lat) hn).mono ?_
 rintro e w3 ⟨rfl,j3⟩
 have C3:=C2.later j3
 obtain⟨a1,a2,a5,a6,a7,a8⟩:=QlC (C3.nth 1 rfl)
 obtain⟨b1,b2,b5,b6,b7,b8⟩:=QlC (C3.nth 0 rfl)
 have u0:=(C3.nth 0 rfl).lt
 have u1:=(C3.nth 1 rfl).lt
 have r1:(ar.ma.val==ar.ma.val)=true:=by simp
 go_wp2_with (first
  | (refine Qmy ?hw _ rfl a8 rfl ?_;(case hw=>rfl))
  | (refine Qmy ?hw _ rfl b8 rfl ?_;(case hw=>rfl))
  | fail)
 go_ret
 exact⟨by simp,C3.lat⟩
end Go.Proofs.YtdkpcdgckgaklaaGreat
