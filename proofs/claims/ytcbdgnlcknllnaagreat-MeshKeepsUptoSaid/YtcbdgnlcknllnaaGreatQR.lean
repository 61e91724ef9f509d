/-
  Lemmas for the last text of this claim (part 18 of 20).
-/
import Derived.ArgAppend
import Derived.BigQuiet
import Derived.BigRegion
import Derived.ChangeOld
import Derived.Deep.RegionWith
import Derived.DeepKeys4
import Derived.JoinedCond
import Derived.LaidMore
import Derived.Laws.CopyOwn
import Derived.Laws.Externs
import Derived.Laws.IdiomStrings
import Derived.Laws.Tables
import Derived.Lib.AppendStr
import Derived.Lib.AppendZerosOnto
import Derived.Lib.Mul64
import Derived.Lib.SlBytesConst
import Derived.LoopN
import Derived.Maps.OwnSet
import Derived.OpenShut
import Derived.OrdersHeld
import Derived.ProofKit
import Derived.Shelf.Spec.BitsCarry
import Derived.ShutString
import Derived.Test.YtcbdgnlcknllnaaGreatProg
import Derived.Test.YtcbdgnlcknllnaaGreatRows
import Derived.WalkKit
import Derived.WalkLawsBesides
import Derived.WalkSpells
import Derived.Test.YtcbdgnlcknllnaaGreatQK
import Derived.Test.YtcbdgnlcknllnaaGreatQL
import Derived.Test.YtcbdgnlcknllnaaGreatQM
import Derived.Test.YtcbdgnlcknllnaaGreatQP
import Derived.Test.YtcbdgnlcknllnaaGreatQQ
open Bool renaming and_eq_true → QyH, eq_iff_iff → Qy7
open List renaming replicate → Qyl, getElem?_cons_succ → Qym, getElem?_cons_zero → Qyn, length_map → Qyo, getElem?_eq_getElem → Qyq, nil_append → Qyr, cons_append → Qys, getD_eq_getElem?_getD → Qyt, setIfInBounds_toArray → Qyu, map_toArray → Qyw, set_cons_zero → Qyx, set_cons_succ → Qyy, length_append → Qyz, take_of_length_le → QyA, getElem?_eq_some_iff → QyB, getElem?_append_right → QyC, map_nil → QyD, getElem?_map → QyF, getElem?_append_left → QyG, mem_cons → QyI, map_cons → QyJ, append_assoc → QyK, not_mem_nil → QyN, append_nil → QyT, length_set → QyY, map_append → QyZ, mem_map → Qy1, mem_append → Qy8, drop_of_length_le → Qze, drop_left' → Qzh, getElem_mem → Qzk, flatMap_cons → Qzl, mem_singleton → QzI, take_zero → QzK, drop_append → QAi, take_left' → QAo
open Nat renaming le_refl → Qyv, zero_add → QyE, le_trans → QyX
open Option renaming toList_some → Qyp
set_option linter.all false
namespace Go.Proofs.YtcbdgnlcknllnaaGreat
open Go.RowKit
open Go.BigFrame
structure Arw where
 ar:Arr
 va:Option Addr
 vn:Nat
 vc:Nat
def ArC (x:Arw):List Value:=AvC ⟨x.ar,.slice x.va x.vn x.vc⟩
theorem Qbb (x:Arw):(ArC x).length=24:=Qak _
abbrev az0:List Value:=[.int .u8 0,.int .u64 0,.int .i64 0,.int .i64 0,.slice none 0 0,.int .u8 0,.int .u64 0,.int .i64 0,.int .u8 0,.int .u8 0,.int .u8 0,.int .u8 0,.int .u8 0,.int .u8 0,.int .u8 0,.int .u8 0,.int .u8 0,.int .u8 0,.int .u8 0,.int .u8 0,.int .u8 0,.int .u8 0,.int .u8 0,.int .u8 0]
theorem QcJ {P:Program} {o:Oper} {a:Act} {J:Act→Prop} (ty:TypeId) (x:Operand) (ho:o.op= .load ty x) {w0:World} {g:Nat} {t:TypeId} {l:List Value} (off:Nat) (vs:List Value) (hb:Blk w0 g t l) (hx:a.eval x= .pointer (some ⟨g,off,none⟩))
 (hv:∀j v,vs[j]?=some v→l[off+j]?=some v) (d:TypeDesc) (hu:P.underlying ty=some d) (hd:Qa8 d=true) (hi:(P.info? ty).map (·.size)=some vs.length) (h:J (a.put o.dst (.agg vs.toArray))):o.quiet P a (fun w'=>∃x,w'=grow w0 x) J:=
 QaQ _ x ho g off vs (fun _ hw j v hv'=>by obtain⟨y,rfl⟩:=hw;exact (hb.later ⟨y,rfl⟩).cellD _ (hv j v hv')) hx d hu hd hi h
theorem Qpa:(Tryz.prog.info? 51).map (·.size)=some 16:=by kernel_rfl
theorem Qaw:(Tryz.prog.info? 60).map (·.size)=some 24:=by kernel_rfl
theorem QaX (ar:Arr) (A:Option Addr) (n c:Nat):∀u∈AvC ⟨ar,.slice A n c⟩,u.oneCell'=true:=by
 intro u hu
 rcases Qy8.1 hu with hu|hu
 ·exact Qgp _ rfl u hu
 ·simp only[QyI,Qy1]at hu
  rcases hu with rfl|rfl|rfl|⟨b,_,rfl⟩<;>rfl
def ar9:Arr:=⟨⟨1,5,0,1,[9]⟩,2,3,7,Qa3⟩
theorem QxA:ltrs [ar9] 1=[⟨3,5,7,[9]⟩]:=by rfl
theorem Qkc (x:Arv) (h:x.va.oneCell'=true):∀u∈AvC x,u.oneCell'=true:=by
 intro u hu
 rcases Qy8.1 hu with hu|hu
 ·exact Qgp _ h u hu
 ·simp only[QyI,Qy1]at hu
  rcases hu with rfl|rfl|rfl|⟨b,_,rfl⟩<;>rfl
theorem Qfs:(Tryz.prog.info? 60).map (·.size)=some 24:=by kernel_rfl
theorem QvU {w:World} {g g':Nat} {t t':TypeId} {l l':List Value} (h:Blk w g t l) (h':Blk w g' t' l') (hne:t≠t'):g≠g':=by
 rintro rfl
 have:=h.symm.trans h'
 simp only[Option.some.injEq,Obj.cells.injEq]at this
 exact hne this.2.1
def pv0:List Value:=Qyl 16 (.slice none 0 0)
theorem Qve:(Tryz.prog.info? 133).bind (·.zero)=some (.agg (MsC 0 [] pv0).toArray):=by kernel_rfl
theorem QqJ (a:UInt64):Tryz.prog.built 133 [(0,W64 a)]=some (MsC a [] pv0).toArray:=by
 rw[QaN (pl:=[(0,1),(1,1),(2,1),(3,16),(19,16)]) Tryz.underlying133 Qve (by kernel_rfl),QaH (vs:=[W64 a]) (off:=0) rfl rfl (by rw[Qhu _ _ _ (by simp[pv0])];simp),Qbs]
 rfl
theorem Qvz:(Tryz.prog.info? 83).map (fun i=>(i.zero,i.size,i.bytes))=some (some (.agg (LtC lv0).toArray),4,48):=by kernel_rfl
theorem Qt8:(Tryz.prog.info? 83).map (fun i=>(i.zero,i.size))=some (some (.agg (LtC lv0).toArray),4):=by kernel_rfl
theorem QoY:(Tryz.prog.info? 36).map (fun i=>(i.zero,i.size))=some (some (.agg (PaC prt0 (.slice none 0 0)).toArray),5):=by kernel_rfl
theorem QuP:(Tryz.prog.info? 83).bind (·.zero)=some (.agg (LtC lv0).toArray):=by kernel_rfl
theorem QqT (y:Ltv):Tryz.prog.built 83 [(0,W64 y.lt.to),(1,W64 y.lt.id),(2,.int .i64 y.lt.tk),(3,.slice y.va y.vn y.vc)]=some (LtC y).toArray:=by
 rw[QaN (pl:=[(0,1),(1,1),(2,1),(3,1)]) Tryz.underlying83 QuP (by kernel_rfl),QaH (vs:=[W64 y.lt.to]) (off:=0) rfl rfl (by simp[LtC]),QaH (vs:=[W64 y.lt.id]) (off:=1) rfl rfl (by simp[LtC,Qan]),
  QaH (vs:=[.int .i64 y.lt.tk]) (off:=2) rfl rfl (by simp[LtC,Qan]),QaH (vs:=[.slice y.va y.vn y.vc]) (off:=3) rfl rfl (by simp[LtC,Qan]),Qbs]
 rfl
theorem Qdc {w:World} {g:Nat} {t:TypeId} {ar:Arr} {v:Value} (h:Blk w g t (AvC ⟨ar,v⟩)):w.cell? ⟨g,5,none⟩=some (W8 ar.kd)∧w.cell? ⟨g,6,none⟩=some (W64 ar.to)∧w.cell? ⟨g,7,none⟩=some (.int .i64 ar.tk)∧w.cell? ⟨g,0,none⟩=some (W8 ar.pt.kd)∧w.cell? ⟨g,1,none⟩=some (W64 ar.pt.id):=
 ⟨h.cellD 5 rfl,h.cellD 6 rfl,h.cellD 7 rfl,h.cellD 0 rfl,h.cellD 1 rfl⟩
theorem QhH {w:World} {g:Nat} {t:TypeId} {ar:Arr} {v:Value} (h:Blk w g t (AvC ⟨ar,v⟩)):∀(j:Nat) u,(PaC ar.pt v)[j]?=some u→w.cell? ⟨g,0+j,none⟩=some u:=by
 intro j u hu
 rw[QyE]
 refine h.cellD j ?_
 have hl:=(QyB.1 hu).1
 rw[AvC,QyG hl]
 exact hu
theorem QtU (w:World) (base:Nat) (id:UInt64) (hb:base≤w.heap.size):MsgAt (w.alloc (.cells (MsC id [] pv0).toArray 133)) base w.heap.size id [] pv0:=by
 refine⟨Blk.new w _ _,hb,by simp[pv0],fun i v hv=>.inl ⟨?_,rfl⟩⟩
 rw[pv0,List.getElem?_replicate]at hv
 split at hv
 ·exact (Option.some.inj hv).symm
 ·cases hv
theorem Qlj (w:World):(zeroValue 129).run Tryz.prog w= .ok (.pointer none) w:=by kernel_rfl
set_option maxRecDepth 100000 in
set_option maxHeartbeats 4000000 in
theorem Qgy (A:Option Addr) (n c:Nat) (xs:List Arv) (w:World) (hx:RdF AvC 24 av0 w A n xs) (hok:∀x∈xs,AvOk w x) (hn:n≤1048576):
 Calls Tryz.prog 23 #[.slice A n c] w fun e w'=>∃v ys,e= .returned v∧(∃ bm k f K,LSt w w' bm k f K v ys)∧ys.map (·.lt)=ltrs (xs.map (·.ar)) n:=by
 have hxl:=hx.1
 go_enter Tryz.func23,Tryz.ntmps23
 have hmm:= @run_makeMap Tryz.prog
 go_wp2
 go_loopw [3,14] (fun v3 i wr=>∃(k m:Nat) (f:UInt64×UInt64→Option Nat) (ys:List Ltv),k≤n∧i= .int .i64 k∧m≤k∧ys.length≤k∧LSt w wr w.heap.size m f (Qb2 ((xs.map (·.ar)).take k)) v3 ys∧ys.map (·.lt)=ltrs (xs.map (·.ar)) k) (fun _ i _=>n-(intOf i).toNat)
 case atStart=>
  refine⟨0,0,fun _=>none,[],by omega,rfl,by omega,by simp,⟨Qd8 w _,PMap.made w Qtd,Qyv _,by simp,fun _ _=>rfl,by simp,?_,by simp⟩,rfl⟩
  exact⟨by simp,.inl ⟨rfl,rfl⟩⟩
 case round=>
  clear hmm
  obtain⟨k,m,f,ys,hk,rfl,hm,hyl,S,hys⟩:=hrel
  by_cases hlt:k<n
  ·obtain⟨b,o,rfl,hb,hc⟩:=(hx.later S.lat).at_ hlt
   have hmem:xs.getD k av0∈xs:=by
    rw[Qyt,Qyq (by omega)]
    exact Qzk _
   have har:(xs.map (·.ar))[k]?=some (xs.getD k av0).ar:=by
    rw[QyF,Qyt,Qyq (by omega)]
    rfl
   have htk:(xs.map (·.ar)).take (k+1)=(xs.map (·.ar)).take k++[(xs.getD k av0).ar]:=by
    rw[List.take_add_one,har]
    rfl
   have hls:=Qpk (xs.map (·.ar)) k _ har
   have hks:=fun y=>QkM ((xs.map (·.ar)).take k) y (xs.getD k av0).ar
   have hkok:=Qo9 ((xs.map (·.ar)).take k)
   rw[←htk]at hks
   obtain⟨A5,n5,c5,hva,hnc5,hrd5⟩:=hok _ hmem
   generalize xs.getD k av0=x at *
   obtain⟨ar,va⟩:=x
   simp only at har htk hls hks hva hrd5
   subst hva
   generalize (xs.map (·.ar)).take k=T at *
   generalize hK':Qb2 ((xs.map (·.ar)).take (k+1))=K' at *
   have hKs:(fun y=>if mine y ar then tkK pid y.2 (Qb2 T y) ar.pt else Qb2 T y)=K':=by
    funext y
    exact (hks y).symm
   have HKs:=hid hKs
   have HLs:=hid hls
   have HY:=hid hys
   clear hks hls hys hKs har htk hmem
   generalize hK:Qb2 T=K at *
   by_cases hsk:ar.kd=2∧ar.pt.kd=1
   ·obtain⟨hkd,hpk⟩:=hsk
    have hb1:(ar.kd != 2)=false:=by simp[hkd]
    have hb3:(ar.pt.kd != 1)=false:=by simp[hpk]
    have hxm:∀y,mine y ar=decide (y=(ar.to,ar.pt.id)):=by
     intro y
     unfold mine
     rw[hkd,hpk]
     apply Qy7.2
     simp only[QyH,beq_iff_eq,decide_eq_true_eq]
     constructor
     ·rintro⟨⟨_,h1⟩,h2⟩
      exact Prod.ext h1.symm h2.symm
     ·rintro rfl
      simp
    have hKn:(fun y=>if y=(ar.to,ar.pt.id) then tkK pid ar.pt.id (K (ar.to,ar.pt.id)) ar.pt else K y)=K':=by
     rw[←HKs.out]
     funext y
     rw[hxm y]
     by_cases hy:y=(ar.to,ar.pt.id)
     ·subst hy
      simp
     ·simp[hy]
    have HKn:=hid hKn
    clear hKn hxm HKs
    have hfc:f (ar.to,ar.pt.id)=none∨∃g,f (ar.to,ar.pt.id)=some g:=by
     cases f (ar.to,ar.pt.id)
     ·exact .inl rfl
     ·exact .inr ⟨_,rfl⟩
    have hfc2:(f (ar.to,ar.pt.id)=none)∨∃G,f (ar.to,ar.pt.id)=some G:=hfc
    clear hfc
    rcases hfc2 with hfx|⟨G,hfx⟩
    case' inl=>
     go_wp2_with (first
      | (refine Qam ?hw _ _ rfl b (o+k*24) (AvC ⟨ar,.slice A5 n5 c5⟩) hc rfl _ Tryz.underlying60 rfl (by rw[Qak];exact Qfs) ?_;(case hw=>rfl))
      | (refine Qae rfl rfl _ _ _ rfl wr.heap.size _ _ (AvC ⟨ar,.slice A5 n5 c5⟩) (Blk.new wr _ (AvC av0)) rfl rfl 24 Qfs (Qak ⟨ar,.slice A5 n5 c5⟩) (Qak av0) (Qkc ⟨ar,.slice A5 n5 c5⟩ rfl) ?_;intro w2 hb2 ho2
         obtain⟨e5,e6,e7,e0,e1⟩:=Qdc hb2
         have hlt2:wr.heap.size<w2.heap.size:=hb2.lt
         have l2:Later wr w2:=(Qaa wr _).only ho2 (Qyv _))
      | (refine QgN rfl _ _ rfl Tryz.underlying126 (Qlj _) rfl (S.later (l2.trans (Qaa _ _))).map (ar.to,ar.pt.id) rfl ?_;rw[hfx];simp only[ptrV])
      | (refine Qah ?hw 133 _ rfl (MsC ar.pt.id [] pv0) (by simp only[Qyw,QyJ,QyD];exact QqJ _) ?_;(case hw=>rfl))
      | (refine Qnk rfl _ _ _ rfl Tryz.underlying126 rfl (S.later (l2.trans ((Qaa _ _).trans (Qaa _ _)))).map (by unfold maxLen;omega) (ar.to,ar.pt.id) (w2.heap.size+1) rfl rfl ?_;intro w5 hp5 ho5
         have S4:=S.later (l2.trans ((Qaa w2 (.cells #[W64 ar.to,W64 ar.pt.id] 128)).trans (Qaa _ (.cells (MsC ar.pt.id [] pv0).toArray 133))))
         have hb5:=Qgd (hb2.later ((Qaa w2 (.cells #[W64 ar.to,W64 ar.pt.id] 128)).trans (Qaa _ (.cells (MsC ar.pt.id [] pv0).toArray 133)))) S4.map.obj.choose_spec.choose_spec ho5)
      | (refine Qam ?hw _ _ rfl wr.heap.size 0 (PaC ar.pt (.slice A5 n5 c5)) (QhH hb5) rfl _ Tryz.underlying36 rfl (by rw[QaD];exact Qdf) ?_;(case hw=>rfl))
      | (refine Qdm ?hw 181 _ rfl 36 5 _ (PaC ar.pt (.slice A5 n5 c5)) Tryz.underlying181 QoY (by omega) (by omega) (QaD _ _) rfl ?_;(case hw=>rfl))
      | fail)
     have em:(w2.alloc (.cells #[W64 ar.to,W64 ar.pt.id] 128)).heap.size=w2.heap.size+1:=by simp
     have hmn:=QtU (w2.alloc (.cells #[W64 ar.to,W64 ar.pt.id] 128)) w.heap.size ar.pt.id (by have:=S.lat.size;omega)
     rw[em]at hmn
     have S5a:=S4.put (x0:=(ar.to,ar.pt.id)) (g:=w2.heap.size+1) hfx hmn (fun y hy=>by
      obtain⟨_,hm⟩:=S.msg y _ hy
      have:=hm.blk.lt
      omega) hp5 ho5
     obtain⟨m5,hm5,f5,hG,S5⟩:∃m5,m5≤k+1∧∃f5:UInt64×UInt64→Option Nat,f5 (ar.to,ar.pt.id)=some (w2.heap.size+1)∧LSt w w5 w.heap.size m5 f5 K u3 ys:=⟨m+1,by omega,_,by simp,S5a⟩
     clear S5a hmn em S4 hp5 ho5
     generalize w2.heap.size+1=G at *
    case' inr=>
     go_wp2_with (first
      | (refine Qam ?hw _ _ rfl b (o+k*24) (AvC ⟨ar,.slice A5 n5 c5⟩) hc rfl _ Tryz.underlying60 rfl (by rw[Qak];exact Qfs) ?_;(case hw=>rfl))
      | (refine Qae rfl rfl _ _ _ rfl wr.heap.size _ _ (AvC ⟨ar,.slice A5 n5 c5⟩) (Blk.new wr _ (AvC av0)) rfl rfl 24 Qfs (Qak ⟨ar,.slice A5 n5 c5⟩) (Qak av0) (Qkc ⟨ar,.slice A5 n5 c5⟩ rfl) ?_;intro w2 hb2 ho2
         obtain⟨e5,e6,e7,e0,e1⟩:=Qdc hb2
         have hlt2:wr.heap.size<w2.heap.size:=hb2.lt
         have l2:Later wr w2:=(Qaa wr _).only ho2 (Qyv _)
         have hb5:=hb2.later (Qaa w2 (.cells #[W64 ar.to,W64 ar.pt.id] 128)))
      | (refine QgN rfl _ _ rfl Tryz.underlying126 (Qlj _) rfl (S.later (l2.trans (Qaa _ _))).map (ar.to,ar.pt.id) rfl ?_;rw[hfx];simp only[ptrV])
      | (refine Qam ?hw _ _ rfl wr.heap.size 0 (PaC ar.pt (.slice A5 n5 c5)) (QhH hb5) rfl _ Tryz.underlying36 rfl (by rw[QaD];exact Qdf) ?_;(case hw=>rfl))
      | (refine Qdm ?hw 181 _ rfl 36 5 _ (PaC ar.pt (.slice A5 n5 c5)) Tryz.underlying181 QoY (by omega) (by omega) (QaD _ _) rfl ?_;(case hw=>rfl))
      | fail)
     have S5a:=S.later (l2.trans (Qaa w2 (.cells #[W64 ar.to,W64 ar.pt.id] 128)))
     obtain⟨m5,hm5,f5,hG,S5⟩:∃m5,m5≤k+1∧∃f5:UInt64×UInt64→Option Nat,f5 (ar.to,ar.pt.id)=some G∧LSt w (w2.alloc (.cells #[W64 ar.to,W64 ar.pt.id] 128)) w.heap.size m5 f5 K u3 ys:=⟨m,by omega,f,hfx,S5a⟩
     clear S5a
     have em:(w2.alloc (.cells #[W64 ar.to,W64 ar.pt.id] 128)).heap.size=w2.heap.size+1:=by simp
     rw[←em]
     clear em
     generalize w2.alloc (.cells #[W64 ar.to,W64 ar.pt.id] 128)=w5 at *
    all_goals
     clear S ho2 e5 e6 e7 e0 e1 hlt2 l2 hb2 hfx
     have T6:=S5.later (Qaa w5 (.cells (PaC ar.pt (.slice A5 n5 c5)).toArray 36))
     obtain⟨pv6,M6⟩:=T6.msg (ar.to,ar.pt.id) G hG
     have hb6:=hb5.later (Qaa w5 (.cells (PaC ar.pt (.slice A5 n5 c5)).toArray 36))
     have hav:Avoid (· =G) A5 n5:=fun h0 ad had e=>by
      obtain⟨b',o',hA,hlt',_⟩:=hrd5.2 h0
      rw[hA]at had
      cases had
      have:=M6.low
      simp only at e
      omega
     have hkx:=hkok (ar.to,ar.pt.id)
     have hks:=hkx.small
     refine (Qow w.heap.size G ar.pt.id (K (ar.to,ar.pt.id)) pv6 ar.pt A5 n5 c5 w5.heap.size 36 _ M6 hkx (hrd5.later T6.lat) hav T6.lat.size (by omega) (Blk.new w5 _ _)).mono ?_
     rintro e w7 ⟨rfl,⟨pv7,M7⟩,O7⟩
     have S7:=T6.took hG M7 O7
     have hb7:=hb6.only O7 (QvU hb6 M6.blk (by decide))
     clear T6 M6 hb6 hav O7 S5 hb5
     rw[HKn.out]at S7
     have hKT:Hid (Qb2 T (ar.to,ar.pt.id)=K (ar.to,ar.pt.id)):=hid (by rw[hK])
     have hcell:=Qdc hb7
     have hok1:=hid (fun h:tkE pid ar.pt.id (K (ar.to,ar.pt.id)) ar.pt=0=>(show tkK pid ar.pt.id (K (ar.to,ar.pt.id)) ar.pt=K (ar.to,ar.pt.id)++[ar.pt] by rw[tkK,if_pos h]))
     have hkn:KeptOk (tkK pid ar.pt.id (K (ar.to,ar.pt.id)) ar.pt):=hkx.snoc
     have HSk:=hid (fun h:Qhd T ar=[]=>(show ys.map (·.lt)=ltrs (xs.map (·.ar)) (k+1) by rw[HY.out,HLs.out,h,QyT]))
     have HLt:Hid (Qhd T ar=if ar.kd=2∧ar.pt.kd=1∧tkE pid ar.pt.id (K (ar.to,ar.pt.id)) ar.pt=0∧((K (ar.to,ar.pt.id)).length:Int)+1=ar.pt.ct then [⟨ar.to,ar.pt.id,ar.tk,Qir (K (ar.to,ar.pt.id)++[ar.pt])⟩] else []):=hid (by rw[Qhd,hKT.out])
     by_cases hE:tkE pid ar.pt.id (K (ar.to,ar.pt.id)) ar.pt=0
     ·rw[hE]
      have hap:=hok1.out hE
      rw[hap]at M7 hkn
      have hct:ctOf (K (ar.to,ar.pt.id)++[ar.pt])=ar.pt.ct:=QiX _ _
      have hlen:((K (ar.to,ar.pt.id)++[ar.pt]).length:Int)=((K (ar.to,ar.pt.id)).length:Nat)+1:=by simp
      have hMi:=QgV w.heap.size G ar.pt.id _ pv7 w7 M7 hkn (by simp)
      have hMb:Hid (∀ (_:((K (ar.to,ar.pt.id)).length:Int)+1=ar.pt.ct) (w':World) (l:Later w7 w'),_):=hid (fun hf w' l=>QmR w.heap.size G ar.pt.id _ pv7 w' (M7.later l) hkn (by simp) (by rw[hlen,hct];exact hf))
      have hle:=(hkn.ct (by simp)).2.2.1
      rw[hct,hlen]at hMi hle
      have hc16:=(QgM (Qis hE).2.1).2.1
      have HE:=hid hE
      clear hct hlen hap hE hok1 M7 hkn hkx hKT
      generalize Qir (K (ar.to,ar.pt.id)++[ar.pt])=WH at *
      generalize (K (ar.to,ar.pt.id)).length=KL at *
      go_wp2_with fail
      refine hMi.mono ?_
      rintro e w8 ⟨rfl,j8⟩
      have S8:=S7.later j8
      have hb8:=hb7.later j8
      obtain⟨e5,e6,e7,e0,e1⟩:=Qdc hb8
      clear hMi S7 hb7 hcell
      by_cases hfull:(KL:Int)+1=ar.pt.ct
      ·have hd:decide ((KL:Int)+1<ar.pt.ct)=false:=decide_eq_false (by omega)
       have hB:=hMb.out hfull w8 j8
       have hl1:=hid (HLt.out.trans (if_pos ⟨hkd,hpk,HE.out,hfull⟩))
       clear hMb HSk HLt hfull
       go_wp2_with fail
       refine hB.mono ?_
       rintro e w9 ⟨A9,n9,c9,rfl,hown9,j9⟩
       have S9:=S8.later j9
       have hb9:=hb8.later j9
       have hw9:w.heap.size≤w8.heap.size:=S8.lat.size
       clear S8 hb8 hB e5 e6 e7 e0 e1 hd
       obtain⟨e5,e6,e7,e0,e1⟩:=Qdc hb9
       obtain⟨y,hy⟩:∃y:Ltv,y=⟨⟨ar.to,ar.pt.id,ar.tk,WH⟩,A9,n9,c9⟩:=⟨_,rfl⟩
       have hyb:=hid (QqT y)
       go_wp2_with (first
        | (refine Qah ?hw 83 _ rfl (LtC y) (by simp only[Qyw,QyJ,QyD];rw[←hyb.out,hy];rfl) ?_;(case hw=>rfl))
        | (refine Qdm ?hw 80 _ rfl 83 4 _ (LtC y) Tryz.underlying80 Qt8 (by omega) (by omega) rfl rfl ?_;(case hw=>rfl))
        | (refine Qcy (F:=LtC) (d:=lv0) Qfu Quz (by omega) rfl _ _ _ rfl 83 _ 48 Tryz.underlying80 Qvz rfl w _ _ _ (QaF S9.own (Qaa _ _)) (S9.lat.trans (Qaa _ _)) (some ⟨w9.heap.size,0,none⟩) 1 1 [y] (Qgw Qfu (by rw[show [y].flatMap LtC=LtC y by simp];exact Blk.new w9 _ _) rfl) rfl rfl (by omega) (by omega) ?_;intro A10 c10 w10 hown10 hl10 hg10)
        | fail)
       have hown9':=Qay (QbR hown9 hw9) (Qaa w9 (.cells (LtC y).toArray 83))
       have hys2:(ys++[y]).map (·.lt)=ltrs (xs.map (·.ar)) (k+1):=by
        rw[QyZ,HY.out,HLs.out,hl1.out,hy]
        rfl
       have S10:=(S9.later (Qaa w9 (.cells (LtC y).toArray 83))).wrote (y:=y) (by simpa using hown10) hg10 hl10 (by rw[hy];rw[hy]at hown9';exact hown9')
       exact⟨⟨k+1,m5,f5,ys++[y],by omega,by go_num,by omega,by simp;omega,by rw[hK'];exact S10,hys2⟩,by simp[intOf];omega⟩
      ·have hd:decide ((KL:Int)+1<ar.pt.ct)=true:=decide_eq_true (by omega)
       have hsk:=hid (HSk.out (by rw[HLt.out,if_neg (fun h=>hfull h.2.2.2)]))
       clear HSk HLt hMb hfull
       go_wp2_with fail
       exact⟨⟨k+1,m5,f5,ys,by omega,by go_num,by omega,by omega,by rw[hK'];exact S8,hsk.out⟩,by simp[intOf];omega⟩
     ·have hsk:=hid (HSk.out (by rw[HLt.out,if_neg (fun h=>hE h.2.2.1)]))
      have hE1:((tkE pid ar.pt.id (K (ar.to,ar.pt.id)) ar.pt:Nat):Int)≠0:=by omega
      clear HSk HLt hok1 hkn M7 hKT
      generalize tkE pid ar.pt.id (K (ar.to,ar.pt.id)) ar.pt=E at *
      have hE2:((E:Int) != 0)=true:=by rw[bne_iff_ne];exact hE1
      go_wp2_with fail
      exact⟨⟨k+1,m5,f5,ys,by omega,by go_num,by omega,by omega,by rw[hK'];exact S7,hsk.out⟩,by simp[intOf];omega⟩
   ·have hno:∀y,mine y ar=false:=by
     intro y
     unfold mine
     by_cases h1:ar.kd=2
     ·have h2:(ar.pt.kd==1)=false:=by
       rw[beq_eq_false_iff_ne]
       exact fun h=>hsk ⟨h1,h⟩
      rw[h2]
      simp
     ·have h2:(ar.kd==2)=false:=by simpa using h1
      rw[h2]
      simp
    have hKK:K=K':=by
     rw[←HKs.out]
     funext y
     rw[hno y]
     rfl
    have hl0:Qhd T ar=[]:=by
     unfold Qhd
     rw[if_neg (fun h=>hsk ⟨h.1,h.2.1⟩)]
    have HLx:=hid (show ys.map (·.lt)=ltrs (xs.map (·.ar)) (k+1) by rw[HY.out,HLs.out,hl0,QyT])
    subst hKK
    have FIN:=hid (fun (w':World) (l:Later wr w')=>S.later l)
    clear HKs HLs HY hl0 hno S
    have hb1:(ar.kd != 2)=true∨((ar.kd != 2)=false∧(ar.pt.kd != 1)=true):=by
     by_cases h1:ar.kd=2
     ·exact .inr ⟨by simp[h1],by rw[bne_iff_ne];exact fun h=>hsk ⟨h1,h⟩⟩
     ·exact .inl (by simpa using h1)
    clear hsk
    rcases hb1 with hb1|⟨hb1,hb3⟩
    all_goals
     go_wp2_with (first
      | (refine Qam ?hw _ _ rfl b (o+k*24) (AvC ⟨ar,.slice A5 n5 c5⟩) hc rfl _ Tryz.underlying60 rfl (by rw[Qak];exact Qfs) ?_;(case hw=>rfl))
      | (refine Qae rfl rfl _ _ _ rfl wr.heap.size _ _ (AvC ⟨ar,.slice A5 n5 c5⟩) (Blk.new wr _ (AvC av0)) rfl rfl 24 Qfs (Qak ⟨ar,.slice A5 n5 c5⟩) (Qak av0) (Qkc ⟨ar,.slice A5 n5 c5⟩ rfl) ?_;intro w2 hb2 ho2
         obtain⟨e5,e6,e7,e0,e1⟩:=Qdc hb2
         have hlt2:wr.heap.size<w2.heap.size:=hb2.lt
         have l2:Later wr w2:=(Qaa wr _).only ho2 (Qyv _))
      | fail)
     exact⟨⟨k+1,m,f,ys,by omega,by go_num,by omega,by omega,by rw[hK'];exact FIN.out _ l2,HLx.out⟩,by simp[intOf];omega⟩
  ·obtain rfl:k=n:=by omega
   go_wp2_with fail
   go_ret
   exact⟨_,ys,rfl,⟨_,_,_,_,S⟩,hys⟩
abbrev tz0:List Value:=[.slice none 0 0,.slice none 0 0,.int .i64 0]
abbrev em9:List Value:=[.int .i64 (-1),.int .u64 0,.slice none 0 0]
theorem Qjr:Tryz.prog.built 41 []=some tz0.toArray:=by kernel_rfl
theorem Qbp:(Tryz.prog.info? 41).map (·.size)=some 3:=by kernel_rfl
theorem Qgt:∀u∈tz0,u.oneCell'=true:=by
 intro u hu
 simp only[QyI,QyN,or_false]at hu
 rcases hu with rfl|rfl|rfl<;>rfl
theorem QnO:(Tryz.prog.info? 60).map (fun i=>(i.zero,i.size))=some (some (.agg (AvC av0).toArray),24):=by kernel_rfl
set_option maxRecDepth 100000 in
theorem QoE (w:World):Calls Tryz.prog 11 #[.slice none 0 0,.agg em9.toArray] w fun e w'=>e= .returned (.tuple #[.agg tz0.toArray,.int .i64 1])∧Later w w':=by
 have B1:=Qbh w 27 em9
 have B2:=B1.add (Qaa _ (.cells tz0.toArray 41)) (k:=w.heap.size+1) (by simp) (by omega) (Blk.new' _ _ tz0 (by simp))
 have e0:=(B2.nth 1 rfl).cellD 0 (u:=.int .i64 (-1)) rfl
 have hb:=hid Qjr
 go_enter Tryz.func11,Tryz.ntmps11
 go_wp2_with (first
  | (refine Qah ?hw 41 _ rfl tz0 (by simp only[Qyw,QyD];exact hb.out) ?_;(case hw=>rfl))
  | (refine Qae rfl rfl _ _ _ rfl (w.heap.size+1) _ _ tz0 (B2.nth 0 rfl) rfl rfl 3 Qbp rfl rfl Qgt ?_;intro w5 hb5 ho5)
  | fail)
 exact bodyPost_ret (Qaf rfl _ _ _ _ _ _ hb5 rfl Tryz.underlying41 rfl Qbp) rfl ⟨rfl,B2.lat.only ho5 (by omega)⟩
theorem Qsk {w:World} {g:Nat} {t:TypeId} {x:Arv} (h:Blk w g t (AvC x)):RdF AvC 24 av0 w (some ⟨g,0,none⟩) 1 [x]:=
 Qgw Qak (by rw[show [x].flatMap AvC=AvC x by simp];exact h) rfl
theorem Qqr {α β:Type} (f:α→β) {l:List α} {b:β} (h:l.map f=[b]):∃y,l=[y]∧f y=b:=by
 rcases l with _|⟨y,_|⟨z,zs⟩⟩
 ·simp at h
 ·exact⟨y,rfl,by simpa using h⟩
 ·simp at h
abbrev aa9 (g:Nat):List Value:=[.int .u8 1,.int .u64 5,.int .i64 0,.int .i64 1,.slice (some ⟨g,0,none⟩) 1 1,.int .u8 2,.int .u64 3,.int .i64 7,.int .u8 0,.int .u8 0,.int .u8 0,.int .u8 0,.int .u8 0,.int .u8 0,.int .u8 0,.int .u8 0,.int .u8 0,.int .u8 0,.int .u8 0,.int .u8 0,.int .u8 0,.int .u8 0,.int .u8 0,.int .u8 0]
theorem QvQ (g:Nat):aa9 g=AvC ⟨ar9,.slice (some ⟨g,0,none⟩) 1 1⟩:=by rfl
set_option maxRecDepth 100000 in
set_option maxHeartbeats 4000000 in
theorem Quu (w:World):Calls Tryz.prog 6 #[] w fun e w'=>e= .returned (.bool true)∧Later w w':=by
 have B1:=Qbh w 5 [.int .u8 9]
 have B2:=B1.add (Qaa _ (.cells (aa9 w.heap.size).toArray 60)) (k:=w.heap.size+1) (by simp) (by omega) (Blk.new' _ _ (aa9 w.heap.size) (by simp))
 have hx:=Qsk (x:=⟨ar9,.slice (some ⟨w.heap.size,0,none⟩) 1 1⟩) (QvQ w.heap.size ▸ (B2.nth 0 rfl))
 have hr9:=QcU (bs:=[9]) (rest:=[]) (B2.nth 1 rfl) rfl
 have hok:∀x∈[(⟨ar9,.slice (some ⟨w.heap.size,0,none⟩) 1 1⟩:Arv)],AvOk ((w.alloc (.cells [.int .u8 9].toArray 5)).alloc (.cells (aa9 w.heap.size).toArray 60)) x:=by
  intro x hx
  obtain rfl:x=_:=by simpa using hx
  exact⟨_,1,1,rfl,Qyv _,hr9⟩
 have HL:=hid (Qgy (some ⟨w.heap.size+1,0,none⟩) 1 1 _ _ hx hok (by omega))
 have j2:=B2.lat
 clear hx hr9 hok B1 B2
 go_enter Tryz.func6,Tryz.ntmps6
 go_wp2_with fail
 refine HL.out.mono ?_
 clear HL
 rintro e w1 ⟨v,ys,rfl,⟨bm,k,f,K,S⟩,hys⟩
 obtain⟨y,rfl,hy⟩:∃y,ys=[y]∧y.lt=⟨3,5,7,[9]⟩:=by
  exact Qqr _ (hys.trans QxA)
 obtain⟨lt,va,vn,vc⟩:=y
 simp only at hy
 subst hy
 have htx:=S.txt _ (QzI.2 rfl)
 simp only at htx
 obtain rfl:1=vn:=htx.len
 have hown:=S.own
 simp only[Qzl,List.flatMap_nil,QyT,List.length_singleton]at hown
 have j1:=S.lat
 clear S hys
 rcases hown.2 with ⟨_,h⟩|⟨g,cap,cur,rfl,_⟩
 ·omega
 go_wp2_with fail
 refine (QoE w1).mono ?_
 rintro e w2 ⟨rfl,l2⟩
 go_wp2_with (first
  | (refine Qae rfl rfl _ _ _ rfl w2.heap.size _ _ tz0 (Blk.new w2 _ tz0) rfl rfl 3 Qbp rfl rfl Qgt ?_;intro w5 hb5 ho5
     have l5:Later w1 w5:=l2.trans ((Qaa w2 _).only ho5 (Qyv _))
     have hown5:=QaF hown l5
     have q0:w5.cell? ⟨g,0,none⟩=some (W64 3):=hown5.cells (g:=g) rfl 0 _ rfl
     have q1:w5.cell? ⟨g,1,none⟩=some (W64 5):=hown5.cells (g:=g) rfl 1 _ rfl
     have q2:w5.cell? ⟨g,2,none⟩=some (.int .i64 7):=hown5.cells (g:=g) rfl 2 _ rfl
     have q3:w5.cell? ⟨g,3,none⟩=some (.slice va 1 vc):=hown5.cells (g:=g) rfl 3 _ rfl)
  | fail)
 refine (QgC va (some ⟨w5.heap.size,0,none⟩) 1 1 vc 1 [9] [9] _ ((htx.rd.later l5).later (Qaa w5 _)) (QcU (bs:=[9]) (rest:=[]) (Blk.new w5 5 [.int .u8 9]) rfl) (by omega) (by omega)).mono ?_
 rintro e w6 ⟨rfl,l6⟩
 simp only[decide_true]
 go_wp2_with fail
 go_ret
 exact⟨rfl,((j2.trans j1).trans l5).trans ((Qaa w5 _).trans l6)⟩
end Go.Proofs.YtcbdgnlcknllnaaGreat
namespace Go.Proofs.YtcbdgnlcknllnaaGreat
open Go.RowKit
section
variable {α:Type} (pr:α→Prt)
end
end Go.Proofs.YtcbdgnlcknllnaaGreat
namespace Go.Proofs.YtcbdgnlcknllnaaGreat
open Go.RowKit
open Go.BigFrame
structure Pv where
 p:Prt
 va:Option Addr
 vn:Nat
 vc:Nat
def PvOk (w:World) (x:Pv):Prop:=x.vn≤x.vc∧RdB w x.va x.vn x.p.da
theorem PvOk.later {w w':World} {x:Pv} (h:PvOk w x) (hl:Later w w'):PvOk w' x:=⟨h.1,h.2.later hl⟩
theorem Qim (x:Arw):∀u∈ArC x,u.oneCell'=true:=QaX _ _ _ _
def aw0:Arw:=⟨⟨prt0,0,0,0,Qa3⟩,none,0,0⟩
theorem Qvi:(Tryz.prog.info? 60).map (fun i=>(i.zero,i.size,i.bytes))=some (some (.agg (ArC aw0).toArray),24,96):=by kernel_rfl
def AwOk (w:World) (base:Nat) (g:Arw):Prop:=OwnB w base g.va g.vn g.vc g.ar.pt.da
def swp {α:Type} (d:α) (l:List α) (j:Nat):List α:=(l.set (j+1) (l.getD j d)).set j (l.getD (j+1) d)
def sink {α:Type} (key:α→Int) (d:α) (l:List α):Nat→List α
 | 0=>l
 | j+1=>if key (l.getD (j+1) d)<key (l.getD j d) then sink key d (swp d l j) j else l
def srt {α:Type} (key:α→Int) (d:α) (l:List α):Nat→List α
 | 0=>l
 | k+1=>sink key d (srt key d l k) (k+1)
section
variable {α:Type} {key:α→Int} {d:α} {l:List α}
theorem Qe9 (j:Nat):(swp d l j).length=l.length:=by rw[swp,QyY,QyY]
theorem Qtj {j:Nat} (hj:j+1<l.length):∀x∈swp d l j,x∈l:=by
 intro x hx
 have g:∀i,i<l.length→l.getD i d∈l:=fun i hi=>by
  rw[Qyt,Qyq hi]
  exact Qzk _
 rcases List.mem_or_eq_of_mem_set hx with hx|rfl
 ·rcases List.mem_or_eq_of_mem_set hx with hx|rfl
  ·exact hx
  ·exact g j (by omega)
 ·exact g (j+1) hj
theorem Qgz:∀(j:Nat) (l:List α),(sink key d l j).length=l.length
 | 0,_=>rfl
 | j+1,l=>by
   rw[sink]
   split
   ·rw[Qgz j,Qe9]
   ·rfl
theorem QlE:∀(j:Nat) (l:List α),j<l.length→∀x∈sink key d l j,x∈l
 | 0,_,_,x,hx=>hx
 | j+1,l,hj,x,hx=>by
   rw[sink]at hx
   split at hx
   ·exact Qtj hj x (QlE j _ (by rw[Qe9];omega) x hx)
   ·exact hx
theorem Qda:∀k:Nat,(srt key d l k).length=l.length
 | 0=>rfl
 | k+1=>by rw[srt,Qgz,Qda k]
theorem QkZ:∀k:Nat,k<l.length→∀x∈srt key d l k,x∈l
 | 0,_,x,hx=>hx
 | k+1,h,x,hx=>QkZ k (by omega) x (QlE (k+1) _ (by rw[Qda];exact h) x hx)
theorem QqB (x:α) (l:List α) (j:Nat):swp d (x :: l) (j+1)=x :: swp d l j:=by simp[swp]
theorem QlF:∀(j:Nat) (l:List α),j+1<l.length→(swp d l j).Perm l
 | _,[],h=>by simp at h
 | _,[_],h=>by simp at h
 | 0,a :: b :: t,_=>List.Perm.swap a b t
 | j+1,x :: y :: l,h=>by
   rw[QqB]
   exact (QlF j (y :: l) (by simpa using h)).cons x
theorem QiU:∀(j:Nat) (l:List α),j<l.length→(sink key d l j).Perm l
 | 0,_,_=>List.Perm.refl _
 | j+1,l,hj=>by
   rw[sink]
   split
   ·exact (QiU j _ (by rw[Qe9];omega)).trans (QlF j l hj)
   ·exact List.Perm.refl _
theorem QlU:∀k:Nat,k<l.length→(srt key d l k).Perm l
 | 0,_=>List.Perm.refl _
 | k+1,h=>(QiU (k+1) _ (by rw[Qda];exact h)).trans (QlU k (by omega))
theorem QoV {j:Nat} (h: ¬key (l.getD (j+1) d)<key (l.getD j d)):sink key d l (j+1)=l:=by rw[sink,if_neg h]
theorem QnN {j:Nat} (h:key (l.getD (j+1) d)<key (l.getD j d)):sink key d l (j+1)=sink key d (swp d l j) j:=by rw[sink,if_pos h]
end
def awK (x:Arw):Int:=x.ar.tk
def cmpI (a b:Int):Int:=if a<b then -1 else if b<a then 1 else 0
theorem QqS (a b:Int):decide (cmpI a b<0)=decide (a<b):=by
 unfold cmpI
 split
 ·simp_all
 ·split<;>simp_all
theorem Qsl (x:Arw):(ArC x)[7]?=some (.int .i64 x.ar.tk):=rfl
theorem Qsw (qs:List Arw) (rest:List Value) {j:Nat} (hj:j<qs.length):∀i v,(ArC (qs.getD j aw0))[i]?=some v→(qs.flatMap ArC++rest)[j*24+i]?=some v:=by
 intro i v hv
 have h:=QdK Qbb aw0 qs j hj hv
 rw[QyG (QyB.1 h).1]
 exact h
theorem QrI (x y:Arw) (w:World):Calls Tryz.prog 39 #[.agg (ArC x).toArray,.agg (ArC y).toArray] w fun e w'=>e= .returned (.int .i64 (cmpI x.ar.tk y.ar.tk))∧Later w w':=by
 have C1:=Qbh w 60 (ArC x)
 have C2:Bag w ((w.alloc (.cells (ArC x).toArray 60)).alloc (.cells (ArC y).toArray 60)) [(w.heap.size+1,60,ArC y),(w.heap.size,60,ArC x)]:=
  C1.add (Qaa _ _) (by simp) (by omega) (Blk.new' _ _ (ArC y) (by simp))
 have a1:=(C2.nth 1 rfl).cellD 7 (Qsl x)
 have a2:=(C2.nth 0 rfl).cellD 7 (Qsl y)
 have hv:cmpI x.ar.tk y.ar.tk=if x.ar.tk<y.ar.tk then -1 else if y.ar.tk<x.ar.tk then 1 else 0:=rfl
 by_cases h1:x.ar.tk<y.ar.tk
 ·have f1:decide (x.ar.tk<y.ar.tk)=true:=decide_eq_true h1
  rw[if_pos h1]at hv
  replace hv:=hid hv
  go_enter Tryz.func39,Tryz.ntmps39
  go_wp2_with fail
  go_ret
  exact⟨by rw[hv.out];rfl,C2.lat⟩
 ·have f1:decide (x.ar.tk<y.ar.tk)=false:=decide_eq_false h1
  rw[if_neg h1]at hv
  by_cases h2:y.ar.tk<x.ar.tk
  ·have f2:decide (y.ar.tk<x.ar.tk)=true:=decide_eq_true h2
   rw[if_pos h2]at hv
   replace hv:=hid hv
   go_enter Tryz.func39,Tryz.ntmps39
   go_wp2_with fail
   go_ret
   exact⟨by rw[hv.out];rfl,C2.lat⟩
  ·have f2:decide (y.ar.tk<x.ar.tk)=false:=decide_eq_false h2
   rw[if_neg h2]at hv
   replace hv:=hid hv
   go_enter Tryz.func39,Tryz.ntmps39
   go_wp2_with fail
   go_ret
   exact⟨by rw[hv.out];rfl,C2.lat⟩
theorem QlW {P:Program} {C:World→Prop} {a:Act} {o:Oper} {K:Act→Prop} {t t':TypeId} (x y:Operand) (ho:o.op= .binOp .sub t x y t') (v:Value) (hv:∀w,(binOp .sub t (a.eval x) (a.eval y)).run P w= .ok v w)
 (h:K (a.put o.dst v)):o.quiet P a C K:=
 ⟨v,fun w _=>by
   unfold Oper.quietAt execOp
   simp[ho,hv,eqGuard]
   exact⟨rfl,rfl⟩,h⟩
set_option maxRecDepth 100000 in
set_option maxHeartbeats 4000000 in
theorem Qqi (base g n c:Nat) (qs:List Arw) (w:World) (hown:w.ownsRow base 60 24 (.slice (some ⟨g,0,none⟩) n c) n (qs.flatMap ArC)) (hql:qs.length=n) (hn:n≤1048576):
 Calls Tryz.prog 92 #[.slice (some ⟨g,0,none⟩) n c,.int .i64 0,.int .i64 n,.func (.func 39) #[] #[]] w fun e w'=>e= .returned (.tuple #[])∧
  w'.ownsRow base 60 24 (.slice (some ⟨g,0,none⟩) n c) n ((srt awK aw0 qs (n-1)).flatMap ArC)∧Only g w w':=by
 have hS:∀k,(srt awK aw0 qs k).length=n:=fun k=>by rw[Qda,hql]
 have hS1:Hid (∀ k,srt awK aw0 qs (k+1)=sink awK aw0 (srt awK aw0 qs k) (k+1)):=hid (fun _=>rfl)
 have hS0:Hid (srt awK aw0 qs 0=qs):=hid rfl
 have hC:=hid (fun x y w=>QrI x y w)
 generalize srt awK aw0 qs=S at *
 go_enter Tryz.func92,Tryz.ntmps92
 go_wp2_with fail
 go_loopw [8] (fun iv wr=>∃k:Nat,iv= .int .i64 ((k:Int)+1)∧k≤n-1∧wr.ownsRow base 60 24 (.slice (some ⟨g,0,none⟩) n c) n ((S k).flatMap ArC)∧Only g w wr) (fun iv _=>n-(intOf iv).toNat)
 case atStart=>exact⟨0,rfl,by omega,by rw[hS0.out];exact hown,World.grownBy.refl _ _⟩
 case round=>
  clear hown
  obtain⟨k,rfl,hk,hown,hO⟩:=hrel
  by_cases hlt:k+1<n
  ·have f1:decide ((k:Int)+1<(n:Int))=true:=decide_eq_true (by omega)
   have hT:=hid (hS1.out k)
   generalize hSk1:S (k+1)=T at hT
   replace hTd:Hid (T=S (k+1)):=hid hSk1.symm
   clear hSk1
   generalize hSk:S k=C0 at *
   have hC0:C0.length=n:=by rw[←hSk];exact hS k
   clear hSk
   go_wp2_with fail
   go_loopw [9] (fun jv wq=>∃(j:Nat) (cur:List Arw),jv= .int .i64 j∧j<n∧cur.length=n∧wq.ownsRow base 60 24 (.slice (some ⟨g,0,none⟩) n c) n (cur.flatMap ArC)∧Hid (T=sink awK aw0 cur j)∧Only g w wq) (fun jv _=>(intOf jv).toNat)
   case atStart=>exact⟨k+1,C0,by go_num,hlt,hC0,hown,hT,hO⟩
   case round=>
    clear hown hO hT hC0
    obtain⟨j,cur,rfl,hj,hcl,hown,hT,hO⟩:=hrel
    rcases j with _|j
    ·have hT0:=hid (show T=cur from hT.out)
     clear hT
     go_wp2_with fail
     refine Qad [([0,1,2,3,4,5,6,7,8,9,10,11,12,13],14)] [15,16] [] (by as_aux_lemma=>kernel_rfl) (by as_aux_lemma=>kernel_rfl) (by intro _ _ d _ _ h;cases d<;>exact h) ?_
     simp only[Qaj,pick,Qym,Qyn,Qyp,Qys,Qyr]
     repeat (go_big_quiet_step (fail))
     refine wpQuiet_nil ?_
     go_wp2_with fail
     try refine⟨by first|assumption|exact Qab _|exact Qaa _ _|exact Later.refl _,?_⟩
     try simp only[Qaj,pick,Qym,Qyn,Qyp,Qys,Qyr]
     repeat (go_big_quiet_step (fail))
     refine wpQuiet_nil ?_
     go_wp2_with fail
     exact⟨⟨k+1,by go_num,by omega,by rw[←hTd.out,hT0.out];exact QaF hown (Qab _),hO.later (Qab _)⟩,by simp[intOf];omega⟩
    ·have s1:=hid (fun h=>hT.out.trans (QoV (key:=awK) (d:=aw0) (l:=cur) (j:=j) (Int.not_lt.2 h)))
     have s2:=hid (fun h=>hT.out.trans (QnN (key:=awK) (d:=aw0) (l:=cur) (j:=j) h))
     obtain⟨g',rest,hg',hbg,hB,hnc,hcm,hbl⟩:=QiB hown (by omega)
     obtain rfl:g=g':=by simpa using hg'
     have at1:=Qsw cur rest (j:=j+1) (by omega)
     have at0:=Qsw cur rest (j:=j) (by omega)
     have hsw:swp aw0 cur j=(cur.set (j+1) (cur.getD j aw0)).set j (cur.getD (j+1) aw0):=rfl
     simp only[awK]at s1 s2
     generalize swp aw0 cur j=SW at *
     generalize cur.getD (j+1) aw0=X at *
     generalize cur.getD j aw0=Z at *
     replace hsw:=hid hsw
     go_wp2_with fail
     refine Qad [([0,1,2,3,4,5,6,7,8,9,10,11,12,13],14)] [15,16] [] (by as_aux_lemma=>kernel_rfl) (by as_aux_lemma=>kernel_rfl) (by intro _ _ d _ _ h;cases d<;>exact h) ?_
     simp only[Qaj,pick,Qym,Qyn,Qyp,Qys,Qyr]
     repeat (first|go_big_quiet_skip|(go_big_quiet_want;(first|refine QcJ _ _ rfl ((j+1)*24) (ArC X) hB.drew rfl at1 _ Tryz.underlying60 rfl (by rw[Qbb];exact Qaw) ?_|refine QcJ _ _ rfl (j*24) (ArC Z) hB.drew rfl at0 _ Tryz.underlying60 rfl (by rw[Qbb];exact Qaw) ?_);simp only[Act.put,Qyu,Qyy,Qyx];go_big_quiet_on)|(go_big_quiet_step (fail)))
     refine wpQuiet_nil ?_
     go_wp2_with fail
     refine (hC.out _ _ _).mono ?_
     rintro e w2 ⟨rfl,j2⟩
     have hcn:=QqS X.ar.tk Z.ar.tk
     generalize cmpI X.ar.tk Z.ar.tk=CI at *
     have l2:=(Qab wr).trans j2
     have hB2:=hB.later l2
     have own2:=QaF hown l2
     have O2:=hO.later l2
     by_cases hcmp:X.ar.tk<Z.ar.tk
     ·rw[decide_eq_true hcmp]at hcn
      have hT2:=hid (s2.out hcmp)
      have hsb:∀w,(binOp .sub 3 (.int .i64 ((j:Int)+1)) (.int .i64 1)).run Tryz.prog w= .ok (.int .i64 (j:Int)) w:=fun w=>by
       have h2:j+1<n:=hj
       simp[go_sem,IntKind.wrap_i64]
       omega
      have hi1:∀w,(Instr.indexAt 66 (.slice (some ⟨g,0,none⟩) n c) (.int .i64 ((j:Int)+1))).run Tryz.prog w= .ok (.pointer (some ⟨g,(j+1)*24,none⟩)) w:=fun w=>by
       have h2:j+1<n:=hj
       simp[go_sem]
       intro h
       omega
      have hi0:∀w,(Instr.indexAt 66 (.slice (some ⟨g,0,none⟩) n c) (.int .i64 (j:Int))).run Tryz.prog w= .ok (.pointer (some ⟨g,j*24,none⟩)) w:=fun w=>by
       have h2:j+1<n:=hj
       simp[go_sem]
       intro h
       omega
      clear s1 s2
      go_wp2_with fail
      try refine⟨by first|assumption|exact Qab _|exact Qaa _ _|exact Later.refl _,?_⟩
      try simp only[Qaj,pick,Qym,Qyn,Qyp,Qys,Qyr]
      repeat (go_big_quiet_step (fail))
      refine wpQuiet_nil ?_
      go_wp2_with fail
      refine Qec [0,1,2,3,4,5,6,7,8,9,10,11,12,13,14] [15,16,17] (fun i=>if i=9∨i=13 then [] else [15,16,17]) (fun _=>g) (by as_aux_lemma=>kernel_rfl) (by as_aux_lemma=>kernel_rfl) (by intro _ _ d _ _ h;cases d<;>exact h) ?_
      refine⟨_,rfl,rfl,?_⟩
      refine QcO _ (.slice (some ⟨g,0,none⟩) n c) rfl rfl ?_
      simp only[Act.put,Qyu,Qyy,Qyx]
      refine⟨_,rfl,rfl,?_⟩
      refine QcO _ (.int .i64 ((j:Int)+1)) rfl rfl ?_
      simp only[Act.put,Qyu,Qyy,Qyx]
      refine⟨_,rfl,rfl,?_⟩
      refine QcO _ (.slice (some ⟨g,0,none⟩) n c) rfl rfl ?_
      simp only[Act.put,Qyu,Qyy,Qyx]
      refine⟨_,rfl,rfl,?_⟩
      refine QcO _ (.int .i64 ((j:Int)+1)) rfl rfl ?_
      simp only[Act.put,Qyu,Qyy,Qyx]
      refine⟨_,rfl,rfl,?_⟩
      refine QlW _ _ rfl _ hsb ?_
      simp only[Act.put,Qyu,Qyy,Qyx]
      refine⟨_,rfl,rfl,?_⟩
      refine QcO _ (.slice (some ⟨g,0,none⟩) n c) rfl rfl ?_
      simp only[Act.put,Qyu,Qyy,Qyx]
      refine⟨_,rfl,rfl,?_⟩
      refine QcO _ (.int .i64 ((j:Int)+1)) rfl rfl ?_
      simp only[Act.put,Qyu,Qyy,Qyx]
      refine⟨_,rfl,rfl,?_⟩
      refine QlW _ _ rfl _ hsb ?_
      simp only[Act.put,Qyu,Qyy,Qyx]
      refine⟨_,rfl,rfl,?_⟩
      refine Qh8 _ _ rfl _ hi0 ?_
      simp only[Act.put,Qyu,Qyy,Qyx]
      refine⟨_,rfl,rfl,?_⟩
      refine QgE _ _ rfl (j*24) (ArC Z) hB2 (by simp) rfl at0 _ Tryz.underlying60 rfl (by rw[Qbb];exact Qaw) ?_
      simp only[Act.put,Qyu,Qyy,Qyx]
      refine⟨_,rfl,rfl,?_⟩
      refine QcO _ (.slice (some ⟨g,0,none⟩) n c) rfl rfl ?_
      simp only[Act.put,Qyu,Qyy,Qyx]
      refine⟨_,rfl,rfl,?_⟩
      refine QcO _ (.int .i64 ((j:Int)+1)) rfl rfl ?_
      simp only[Act.put,Qyu,Qyy,Qyx]
      refine⟨_,rfl,rfl,?_⟩
      refine Qh8 _ _ rfl _ hi1 ?_
      simp only[Act.put,Qyu,Qyy,Qyx]
      refine⟨_,rfl,rfl,?_⟩
      refine QgE _ _ rfl ((j+1)*24) (ArC X) hB2 (by simp) rfl at1 _ Tryz.underlying60 rfl (by rw[Qbb];exact Qaw) ?_
      simp only[Act.put,Qyu,Qyy,Qyx]
      refine⟨_,rfl,rfl,?_⟩
      refine Qh8 _ _ rfl _ hi1 ?_
      simp only[Act.put,Qyu,Qyy,Qyx]
      simp only[Qja,QgZ,pick,Qym,Qyn,Qyp,Qys,Qyr]
      refine Qdk Qbb Qim aw0 rfl rfl _ _ _ rfl (QaF own2 (Qab _)) hcl (j+1) hj Z rfl rfl Qaw ?_
      intro v1 own3 ho1
      refine⟨ho1,?_⟩
      go_wp2_with fail
      refine⟨World.grownBy.refl _ _,?_⟩
      refine Qdk Qbb Qim aw0 rfl rfl _ _ _ rfl own3 (by rw[QyY];exact hcl) j (by omega) X rfl rfl Qaw ?_
      intro v2 own4 ho2
      refine⟨ho2,?_⟩
      go_wp2_with fail
      exact⟨⟨j,SW,by go_num,by omega,by rw[hsw.out,QyY,QyY,hcl],by rw[hsw.out];exact own4,hT2,((O2.later (Qab _)).trans ho1).trans ho2⟩,by simp[intOf]⟩
     ·rw[decide_eq_false hcmp]at hcn
      have hT2:=hid (s1.out (Int.not_lt.1 hcmp))
      clear s1 s2
      go_wp2_with fail
      try refine⟨by first|assumption|exact Qab _|exact Qaa _ _|exact Later.refl _,?_⟩
      try simp only[Qaj,pick,Qym,Qyn,Qyp,Qys,Qyr]
      repeat (go_big_quiet_step (fail))
      refine wpQuiet_nil ?_
      go_wp2_with fail
      exact⟨⟨k+1,by go_num,by omega,by rw[←hTd.out,hT2.out];exact own2,O2⟩,by simp[intOf];omega⟩
  ·have hkn:Hid (k=n-1):=hid (by omega)
   have f1:decide ((k:Int)+1<(n:Int))=false:=decide_eq_false (by omega)
   go_wp2_with fail
   exact bodyPost_end (results_none rfl _ _ _) rfl ⟨rfl,by rw[←hkn.out];exact hown,hO⟩
set_option maxRecDepth 100000 in
set_option maxHeartbeats 4000000 in
theorem Qmu (base g n c:Nat) (qs:List Arw) (w:World) (hown:w.ownsRow base 60 24 (.slice (some ⟨g,0,none⟩) n c) n (qs.flatMap ArC)) (hql:qs.length=n) (hn:n<20):
 Calls Tryz.prog 65 #[.slice (some ⟨g,0,none⟩) n c,.int .i64 n,.func (.func 39) #[] #[]] w fun e w'=>e= .returned (.tuple #[])∧
  w'.ownsRow base 60 24 (.slice (some ⟨g,0,none⟩) n c) n ((srt awK aw0 qs (n-1)).flatMap ArC)∧Only g w w':=by
 have f1:decide ((20:Int)≤(n:Int))=false:=decide_eq_false (by omega)
 have f2:decide ((20:Int)<(n:Int))=false:=decide_eq_false (by omega)
 have hI:=hid (Qqi base g n c qs w hown hql (by omega))
 go_enter Tryz.func65,Tryz.ntmps65
 go_wp2_with fail
 go_loopw [7,8] (fun v7 v8 wr=>v7= .int .i64 0∧v8= .int .i64 20∧wr=w) (fun _ _ _=>0)
 case atStart=>exact⟨rfl,rfl,rfl⟩
 case round=>
  obtain⟨rfl,rfl,rfl⟩:=hrel
  go_wp2_with fail
  refine hI.out.mono ?_
  rintro e w1 ⟨rfl,own1,ho1⟩
  go_wp2_with fail
  go_loopw [6] (fun v6 wr=>v6= .int .i64 20∧wr=w1) (fun _ _=>0)
  case atStart=>exact⟨rfl,rfl⟩
  case round=>
   obtain⟨rfl,rfl⟩:=hrel
   go_wp2_with fail
   exact bodyPost_end (results_none rfl _ _ _) rfl ⟨rfl,own1,ho1⟩
set_option maxRecDepth 100000 in
theorem QrK (base g n c:Nat) (qs:List Arw) (w:World) (hown:w.ownsRow base 60 24 (.slice (some ⟨g,0,none⟩) n c) n (qs.flatMap ArC)) (hql:qs.length=n) (hn:n<20):
 Calls Tryz.prog 38 #[.slice (some ⟨g,0,none⟩) n c,.func (.func 39) #[] #[]] w fun e w'=>e= .returned (.tuple #[])∧
  w'.ownsRow base 60 24 (.slice (some ⟨g,0,none⟩) n c) n ((srt awK aw0 qs (n-1)).flatMap ArC)∧Only g w w':=by
 have hI:=hid (Qmu base g n c qs w hown hql hn)
 go_enter Tryz.func38,Tryz.ntmps38
 go_wp2_with fail
 refine hI.out.mono ?_
 rintro e w1 ⟨rfl,own1,ho1⟩
 go_wp2_with fail
 exact bodyPost_end (results_none rfl _ _ _) rfl ⟨rfl,own1,ho1⟩
set_option maxRecDepth 100000 in
theorem Qny (c:Nat) (w:World):Calls Tryz.prog 92 #[.slice none 0 c,.int .i64 0,.int .i64 0,.func (.func 39) #[] #[]] w fun e w'=>e= .returned (.tuple #[])∧w=w':=by
 go_enter Tryz.func92,Tryz.ntmps92
 go_wp2_with fail
 go_loopw [8] (fun v8 wr=>v8= .int .i64 1∧w=wr) (fun _ _=>0)
 case atStart=>exact⟨rfl,rfl⟩
 case round=>
  obtain⟨rfl,rfl⟩:=hrel
  go_wp2_with fail
  exact bodyPost_end (results_none rfl _ _ _) rfl ⟨rfl,rfl⟩
set_option maxRecDepth 100000 in
theorem QmQ (c:Nat) (w:World):Calls Tryz.prog 65 #[.slice none 0 c,.int .i64 0,.func (.func 39) #[] #[]] w fun e w'=>e= .returned (.tuple #[])∧w=w':=by
 go_enter Tryz.func65,Tryz.ntmps65
 go_wp2_with fail
 go_loopw [7,8] (fun v7 v8 wr=>v7= .int .i64 0∧v8= .int .i64 20∧w=wr) (fun _ _ _=>0)
 case atStart=>exact⟨rfl,rfl,rfl⟩
 case round=>
  obtain⟨rfl,rfl,rfl⟩:=hrel
  go_wp2_with fail
  refine (Qny c w).mono ?_
  rintro e w1 ⟨rfl,rfl⟩
  go_wp2_with fail
  go_loopw [6] (fun v6 wr=>v6= .int .i64 20∧w=wr) (fun _ _=>0)
  case atStart=>exact⟨rfl,rfl⟩
  case round=>
   obtain⟨rfl,rfl⟩:=hrel
   go_wp2_with fail
   exact bodyPost_end (results_none rfl _ _ _) rfl ⟨rfl,rfl⟩
set_option maxRecDepth 100000 in
theorem QrS (c:Nat) (w:World):Calls Tryz.prog 38 #[.slice none 0 c,.func (.func 39) #[] #[]] w fun e w'=>e= .returned (.tuple #[])∧w=w':=by
 go_enter Tryz.func38,Tryz.ntmps38
 go_wp2_with fail
 refine (QmQ c w).mono ?_
 rintro e w1 ⟨rfl,rfl⟩
 go_wp2_with fail
 exact bodyPost_end (results_none rfl _ _ _) rfl ⟨rfl,rfl⟩
end Go.Proofs.YtcbdgnlcknllnaaGreat
namespace Go.Proofs.YtcbdgnlcknllnaaGreat
open Go.RowKit
def Qb0 (vs:List Vst):Vst:=vs.getD (vs.length-1) vst0
def arr0:Arr:=⟨prt0,0,0,0,Qa3⟩
def arvE (vs:List Vst) (b:List UInt8):Nat:=
 if vs.length=0∨b.length≠480 then 2 else if (Qb0 vs).cm.kd=4 then 0 else if (Qb0 vs).cm.kd≠2∧(Qb0 vs).cm.kd≠3 then 3
 else if parE b≠0 then parE b else if (parP b).kd≠(if (Qb0 vs).cm.kd=3 then 2 else 1) then 10 else 0
def arvA (vs:List Vst) (b:List UInt8) (tk:Int):Arr:=
 if arvE vs b≠0 then arr0 else if (Qb0 vs).cm.kd=4 then ⟨prt0,4,(Qb0 vs).id,tk,(Qb0 vs).cm.ma⟩ else ⟨parP b,(Qb0 vs).cm.kd,(Qb0 vs).id,tk,Qa3⟩
theorem QfV {vs:List Vst} {b:List UInt8} {tk:Int} (h:arvE vs b≠0):arvA vs b tk=arr0:=if_pos h
section
variable {vs:List Vst} {b:List UInt8} (tk:Int)
theorem Qlq (h:vs.length=0∨b.length≠480):arvE vs b=2∧arvA vs b tk=arr0:=by
 have e:arvE vs b=2:=if_pos h
 exact⟨e,QfV (by rw[e];decide)⟩
theorem Qpb (h: ¬(vs.length=0∨b.length≠480)) (hk:(Qb0 vs).cm.kd=4):arvE vs b=0∧arvA vs b tk=⟨prt0,(Qb0 vs).cm.kd,(Qb0 vs).id,tk,(Qb0 vs).cm.ma⟩:=by
 have e:arvE vs b=0:=by rw[arvE,if_neg h,if_pos hk]
 exact⟨e,by rw[arvA,if_neg (by rw[e];decide),if_pos hk,hk]⟩
theorem QrH (h: ¬(vs.length=0∨b.length≠480)) (h4:(Qb0 vs).cm.kd≠4) (h2:(Qb0 vs).cm.kd≠2) (h3:(Qb0 vs).cm.kd≠3):arvE vs b=3∧arvA vs b tk=arr0:=by
 have e:arvE vs b=3:=by rw[arvE,if_neg h,if_neg h4,if_pos ⟨h2,h3⟩]
 exact⟨e,QfV (by rw[e];decide)⟩
theorem QtR (h: ¬(vs.length=0∨b.length≠480)) (h23:(Qb0 vs).cm.kd=2∨(Qb0 vs).cm.kd=3) (hp:parE b≠0):arvE vs b=parE b∧arvA vs b tk=arr0:=by
 have e:arvE vs b=parE b:=by
  rw[arvE,if_neg h,if_neg (by rcases h23 with h|h<;>rw[h]<;>decide),if_neg (by rcases h23 with h|h<;>rw[h]<;>decide),if_pos hp]
 exact⟨e,QfV (by rw[e];exact hp)⟩
theorem Qrn (h: ¬(vs.length=0∨b.length≠480)) (h23:(Qb0 vs).cm.kd=2∨(Qb0 vs).cm.kd=3) (hp:parE b=0) (ht:(parP b).kd≠(if (Qb0 vs).cm.kd=3 then 2 else 1)):arvE vs b=10∧arvA vs b tk=arr0:=by
 have e:arvE vs b=10:=by
  rw[arvE,if_neg h,if_neg (by rcases h23 with h|h<;>rw[h]<;>decide),if_neg (by rcases h23 with h|h<;>rw[h]<;>decide),if_neg (not_not_intro hp),if_pos ht]
 exact⟨e,QfV (by rw[e];decide)⟩
theorem QrP (h: ¬(vs.length=0∨b.length≠480)) (h23:(Qb0 vs).cm.kd=2∨(Qb0 vs).cm.kd=3) (hp:parE b=0) (ht:(parP b).kd=(if (Qb0 vs).cm.kd=3 then 2 else 1)):arvE vs b=0∧arvA vs b tk=⟨parP b,(Qb0 vs).cm.kd,(Qb0 vs).id,tk,Qa3⟩:=by
 have e:arvE vs b=0:=by
  rw[arvE,if_neg h,if_neg (by rcases h23 with h|h<;>rw[h]<;>decide),if_neg (by rcases h23 with h|h<;>rw[h]<;>decide),if_neg (not_not_intro hp),if_neg (not_not_intro ht)]
 exact⟨e,by rw[arvA,if_neg (by rw[e];decide),if_neg (by rcases h23 with h|h<;>rw[h]<;>decide)]⟩
end
theorem Qck {w:World} {g:Nat} {t:TypeId} {v:Vst} (h:Blk w g t (VC v)):w.cell? ⟨g,0,none⟩=some (W8 v.cm.kd)∧w.cell? ⟨g,20,none⟩=some (W64 v.id)∧∀j u,(v.cm.ma.val.map W8)[j]?=some u→w.cell? ⟨g,4+j,none⟩=some u:=by
 have hc:=Qao v.cm
 refine⟨h.cellD 0 rfl,h.cellD 20 ?_,fun j u hu=>h.cellD (4+j) ?_⟩
 ·rw[VC,QyC (by omega),hc]
  rfl
 ·have hj:=(QyB.1 hu).1
  rw[Qyo,v.cm.ma.2]at hj
  rw[VC,QyG (by omega),show (4+j)=j+1+1+1+1 by omega]
  exact hu
theorem Qnu (p:Prt) (kd:UInt8) (to:UInt64) (tk:Int) (m m':Y16) (v:Value):Qan (AvC ⟨⟨p,kd,to,tk,m⟩,v⟩) 8 (m'.val.map W8)=AvC ⟨⟨p,kd,to,tk,m'⟩,v⟩:=by
 simp[AvC,PaC,Qan,m.2,m'.2]
theorem QlO (p p':Prt) (kd:UInt8) (to:UInt64) (tk:Int) (m:Y16) (v v':Value):Qan (AvC ⟨⟨p,kd,to,tk,m⟩,v⟩) 0 (PaC p' v')=AvC ⟨⟨p',kd,to,tk,m⟩,v'⟩:=by
 simp[AvC,PaC,Qan]
structure Car where
 vs:List Vst
 bd:List UInt8
 tk:Int
 er:Nat
def QdU (xs:List Nod):Nat→UInt64→Int→List UInt8→List Vst→Car
 | 0,_,_,_,vs=>⟨vs,[],0,11⟩
 | k+1,id,tk,p,vs=>
   if (Qbq (byId id) xs).2≠0 then ⟨vs,[],0,(Qbq (byId id) xs).2⟩
   else if unwE (Qbq (byId id) xs).1.priv.val p≠0 then ⟨vs,[],0,unwE (Qbq (byId id) xs).1.priv.val p⟩
   else if (unwC (Qbq (byId id) xs).1.priv.val p).kd≠1 then ⟨vs++[⟨unwC (Qbq (byId id) xs).1.priv.val p,id,tk⟩],unwB (Qbq (byId id) xs).1.priv.val p,tk+((unwC (Qbq (byId id) xs).1.priv.val p).dl.toNat:Nat),0⟩
   else QdU xs k (unwC (Qbq (byId id) xs).1.priv.val p).nx (tk+((unwC (Qbq (byId id) xs).1.priv.val p).dl.toNat:Nat)) (unwP (Qbq (byId id) xs).1.priv.val p) (vs++[⟨unwC (Qbq (byId id) xs).1.priv.val p,id,tk⟩])
def QgW (tk:Int) (b:List UInt8) (xs:List Nod):Nat:=if tk<0∨1099511627776<tk then 1 else QbW [if b.length=768 then 0 else 2,Qbi xs]
def Qa7 (xs:List Nod) (tk:Int) (id:UInt64) (b:List UInt8):Car:=if QgW tk b xs≠0 then ⟨[],[],0,QgW tk b xs⟩ else QdU xs 16 id tk b []
section
variable {xs:List Nod} {k:Nat} {id:UInt64} {tk:Int} {p:List UInt8} {vs:List Vst}
theorem Qmd (h:(Qbq (byId id) xs).2≠0):QdU xs (k+1) id tk p vs=⟨vs,[],0,(Qbq (byId id) xs).2⟩:=by rw[QdU,if_pos h]
theorem Qm1 (h: ¬(Qbq (byId id) xs).2≠0) (h1:unwE (Qbq (byId id) xs).1.priv.val p≠0):QdU xs (k+1) id tk p vs=⟨vs,[],0,unwE (Qbq (byId id) xs).1.priv.val p⟩:=by rw[QdU,if_neg h,if_pos h1]
theorem QnX (h: ¬(Qbq (byId id) xs).2≠0) (h1: ¬unwE (Qbq (byId id) xs).1.priv.val p≠0) (h2:(unwC (Qbq (byId id) xs).1.priv.val p).kd≠1):
 QdU xs (k+1) id tk p vs=⟨vs++[⟨unwC (Qbq (byId id) xs).1.priv.val p,id,tk⟩],unwB (Qbq (byId id) xs).1.priv.val p,tk+((unwC (Qbq (byId id) xs).1.priv.val p).dl.toNat:Nat),0⟩:=by rw[QdU,if_neg h,if_neg h1,if_pos h2]
theorem QrB (h: ¬(Qbq (byId id) xs).2≠0) (h1: ¬unwE (Qbq (byId id) xs).1.priv.val p≠0) (h2: ¬(unwC (Qbq (byId id) xs).1.priv.val p).kd≠1):
 QdU xs (k+1) id tk p vs=QdU xs k (unwC (Qbq (byId id) xs).1.priv.val p).nx (tk+((unwC (Qbq (byId id) xs).1.priv.val p).dl.toNat:Nat)) (unwP (Qbq (byId id) xs).1.priv.val p) (vs++[⟨unwC (Qbq (byId id) xs).1.priv.val p,id,tk⟩]):=by rw[QdU,if_neg h,if_neg h1,if_neg h2]
end
theorem Qi1 (xs:List Nod):∀(k:Nat) (id:UInt64) (tk:Int) (p:List UInt8) (vs:List Vst),(QdU xs k id tk p vs).vs.length≤vs.length+k
 | 0,_,_,_,vs=>Qyv _
 | k+1,id,tk,p,vs=>by
   rw[QdU]
   split
   ·show vs.length≤_
    omega
   split
   ·show vs.length≤_
    omega
   split
   ·show (vs++[_]).length≤_
    rw[Qyz,List.length_singleton]
    omega
   ·refine QyX (Qi1 xs k _ _ _ _) ?_
    rw[Qyz,List.length_singleton]
    omega
theorem QhA (xs:List Nod) (tk:Int) (id:UInt64) (b:List UInt8):(Qa7 xs tk id b).vs.length≤16:=by
 unfold Qa7
 split
 ·show ([]:List Vst).length≤16
  rw[List.length_nil]
  omega
 ·have:=Qi1 xs 16 id tk b []
  rw[List.length_nil]at this
  omega
end Go.Proofs.YtcbdgnlcknllnaaGreat
namespace Go.Proofs.YtcbdgnlcknllnaaGreat
open Go.RowKit
open Go.BigFrame
abbrev tr1 (A:Option Addr) (n c:Nat) (B:Option Addr) (m d:Nat) (tk:Int):List Value:=[.slice A n c,.slice B m d,.int .i64 tk]
theorem QdX (A:Option Addr) (n c:Nat) (B:Option Addr) (m d:Nat) (tk:Int):∀u∈tr1 A n c B m d tk,u.oneCell'=true:=by
 intro u hu
 simp only[QyI,QyN,or_false]at hu
 rcases hu with rfl|rfl|rfl<;>rfl
theorem QqN (v:Vst):∀u∈VC v,u.oneCell'=true:=by
 intro u hu
 simp only[VC,CC,Qys,QyI,Qy8,Qy1,QyN,or_false]at hu
 rcases hu with rfl|rfl|rfl|rfl|⟨b,_,rfl⟩|rfl|rfl<;>rfl
theorem Qu2:(Tryz.prog.info? 57).bind (·.zero)=some (.agg (VC vst0).toArray):=by kernel_rfl
theorem QvB:(Tryz.prog.info? 57).map (fun i=>(i.zero,i.size,i.bytes))=some (some (.agg (VC vst0).toArray),22,48):=by kernel_rfl
theorem Qs5:(Tryz.prog.info? 57).map (fun i=>(i.zero,i.size))=some (some (.agg (VC vst0).toArray),22):=by kernel_rfl
theorem QpX (v:Vst):Tryz.prog.built 57 [(0,.agg (CC v.cm).toArray),(1,W64 v.id),(2,.int .i64 v.tk)]=some (VC v).toArray:=by
 rw[QaN (pl:=[(0,20),(20,1),(21,1)]) Tryz.underlying57 Qu2 (by kernel_rfl),QaH (vs:=CC v.cm) (off:=0) rfl (by rw[Qao];rfl) (by rw[Qax,Qao];omega),
  QaH (vs:=[W64 v.id]) (off:=20) rfl rfl (by rw[Qbr _ _ _ (by rw[Qax,Qao];omega),Qax];simp),QaH (vs:=[.int .i64 v.tk]) (off:=21) rfl rfl (by rw[Qbr _ _ _ (by rw[Qbr _ _ _ (by rw[Qax,Qao];omega),Qax];simp),Qbr _ _ _ (by rw[Qax,Qao];omega),Qax];simp),Qbs]
 congr 2
 have h1:(CC v.cm).length=20:=Qao _
 have h2:(CC vst0.cm).length=20:=Qao _
 rw[VC,VC]
 generalize CC v.cm=a at *
 generalize CC vst0.cm=z at *
 have e1:Qan (z++[W64 vst0.id,.int .i64 vst0.tk]) 0 a=a++[W64 vst0.id,.int .i64 vst0.tk]:=by
  rw[Qan,QzK,Qyr,QyE,h1,Qzh h2]
 rw[e1]
 have e2:Qan (a++[W64 vst0.id,.int .i64 vst0.tk]) 20 [W64 v.id]=a++[W64 v.id,.int .i64 vst0.tk]:=by
  rw[Qan,QAo h1,QyK,QAi,h1,Qze (by omega)]
  rfl
 rw[e2]
 rw[Qan,List.take_append,h1,QyA (by omega),QyK,QAi,h1,Qze (by omega)]
 simp
end Go.Proofs.YtcbdgnlcknllnaaGreat
