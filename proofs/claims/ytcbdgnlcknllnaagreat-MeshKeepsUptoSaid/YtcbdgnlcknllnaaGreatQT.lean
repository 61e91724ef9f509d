/-
  Lemmas for the last text of this claim (part 20 of 20).
-/
import Derived.ArgAppend
import Derived.BigQuiet
import Derived.BigRegion
import Derived.ChangeOld
import Derived.Deep.RegionWith
import Derived.DeepKeys4
import Derived.JoinedCond
import Derived.LaidMore
import Derived.Laws.CopyOwn
import Derived.Laws.Externs
import Derived.Laws.IdiomStrings
import Derived.Laws.Tables
import Derived.Lib.AppendStr
import Derived.Lib.AppendZerosOnto
import Derived.Lib.Mul64
import Derived.Lib.SlBytesConst
import Derived.LoopN
import Derived.Maps.OwnSet
import Derived.OpenShut
import Derived.OrdersHeld
import Derived.ProofKit
import Derived.Shelf.Spec.BitsCarry
import Derived.ShutString
import Derived.Test.YtcbdgnlcknllnaaGreatProg
import Derived.Test.YtcbdgnlcknllnaaGreatRows
import Derived.WalkKit
import Derived.WalkLawsBesides
import Derived.WalkSpells
import Derived.Test.YtcbdgnlcknllnaaGreatQL
import Derived.Test.YtcbdgnlcknllnaaGreatQR
import Derived.Test.YtcbdgnlcknllnaaGreatQS
open Array renaming range → QAx
open List renaming getElem?_cons_succ → Qym, getElem?_cons_zero → Qyn, length_map → Qyo, getElem?_eq_getElem → Qyq, nil_append → Qyr, cons_append → Qys, getD_eq_getElem?_getD → Qyt, setIfInBounds_toArray → Qyu, map_toArray → Qyw, set_cons_zero → Qyx, set_cons_succ → Qyy, length_append → Qyz, take_of_length_le → QyA, map_nil → QyD, getElem?_map → QyF, mem_cons → QyI, map_cons → QyJ, append_assoc → QyK, not_mem_nil → QyN, length_drop → QyQ, take_succ_eq_append_getElem → QyR, append_nil → QyT, map_append → QyZ, mem_map → Qy1, mem_append → Qy8, mem_singleton → QzI, take_zero → QzK, mem_filterMap → QzR, drop_eq_nil_of_le → QzV, take_left' → QAo
open Nat renaming le_refl → Qyv, zero_add → QyE, lt_of_lt_of_le → QyL
open Option renaming toList_some → Qyp, map_some → Qzz, bind_some → QAb
set_option linter.all false
namespace Go.Proofs.YtcbdgnlcknllnaaGreat
open Go.RowKit
open Go.BigFrame
theorem QkW {l vs us:List Value} {sz:Nat} (hl:l.length=2*sz) (hv:vs.length=sz) (hu:us.length=sz):Qan (Qan l 0 vs) sz us=vs++us:=by
 have h1:Qan l 0 vs=vs++l.drop sz:=by rw[Qan,QzK,Qyr,QyE,hv]
 have h2:(vs++l.drop sz).drop (sz+sz)=[]:=QzV (by rw[Qyz,QyQ];omega)
 rw[h1,Qan,hu,QAo hv,h2,QyT]
theorem Qky {P:Program} {t e:TypeId} {sz:Nat} {z v u:Value} {vs us:List Value} (ht:P.underlying t=some (.slice e)) (hz:(P.info? e).map (fun i=>(i.zero,i.size))=some (some z,sz)) (hs0:0<sz) (hsm:sz≤65536) (hv:v.cells=vs.toArray) (hvl:vs.length=sz) (hu:u.cells=us.toArray) (hul:us.length=sz) (w:World):
 (Instr.buildSlice t 2 #[(0,v),(1,u)]).run P w= .ok (.slice (some ⟨w.heap.size,0,none⟩) 2 2) (w.alloc (.cells (vs++us).toArray e)):=by
 cases hi:P.info? e with
 | none=>simp[hi]at hz
 | some i=>
   simp only[hi,Qzz,Option.some.injEq,Prod.mk.injEq]at hz
   obtain⟨h1,h2⟩:=hz
   have hso:(sizeOf e).run P w= .ok sz w:=by simp[sizeOf,typeInfo,hi,h2]
   have hzv:(zeroValue e).run P w= .ok z w:=by simp[zeroValue,typeInfo,hi,h1]
   have hl:((QAx (2*sz)).map fun x=>z.cells[x%z.cells.size]!)=((QAx (2*sz)).map fun x=>z.cells[x%z.cells.size]!).toList.toArray:=rfl
   have hll:((QAx (2*sz)).map fun x=>z.cells[x%z.cells.size]!).toList.length=2*sz:=by simp
   have hf:Instr.fill (fun i=>some (i*sz,sz)) ((QAx (2*sz)).map fun x=>z.cells[x%z.cells.size]!) [(0,v),(1,u)]=some (vs++us).toArray:=by
    rw[hl]
    rw[QaH (vs:=vs) (off:=0) hv (by rw[hvl,Nat.zero_mul]) (by rw[hll];omega),QaH (vs:=us) (off:=sz) hu (by rw[hul,Nat.one_mul]) (by rw[Qbr _ _ _ (by rw[hll];omega),hll];omega),Qbs,QkW hll hvl hul]
   unfold Instr.buildSlice
   simp only[Sem.run_bind,run_underlying ht,Result.andThen_ok,hso]
   rw[if_neg (by omega),if_neg (by omega)]
   simp only[Sem.run_bind,hzv,Result.andThen_ok,Sem.run_pure,hf]
   simp[newRow]
section
variable {P:Program} {ops:Array Oper} {rest:List Oper} {o:Oper} {a:Act} {w:World} {Q:Exit→Act→World→Prop} {t:TypeId}
theorem Qnp (hw:Region.wanted o (yielded ops a.tmps)=true) (t:TypeId) (x y:Operand) (ho:o.op= .buildSlice t 2 #[(0,x),(1,y)]) (e:TypeId) (sz:Nat) (z:Value) (vs us:List Value) (ht:P.underlying t=some (.slice e)) (hz:(P.info? e).map (fun i=>(i.zero,i.size))=some (some z,sz)) (hs0:0<sz) (hsm:sz≤65536)
 (hvl:vs.length=sz) (hul:us.length=sz) (hx:a.eval x= .agg vs.toArray) (hy:a.eval y= .agg us.toArray)
 (h:wpList P ops Q rest (a.put o.dst (.slice (some ⟨w.heap.size,0,none⟩) 2 2)) (w.alloc (.cells (vs++us).toArray e))):wpList P ops Q (o :: rest) a w:=
 BigFrame.wpList_want hw fun K hK=>by
  have hr:=Qky (v:=.agg vs.toArray) (u:=.agg us.toArray) ht hz hs0 hsm rfl hvl rfl hul w
  unfold Oper.wp
  simp only[execOp,ho,Qyw,QyJ,QyD,hx,hy,Sem.run_bind,hr,Result.andThen_ok,Sem.run_pure]
  exact hK _ _ h
theorem Qxe {p:Array (Nat×Operand)} (_ho:o.op= .buildSlice t 2 p) (h:wpList P ops Q (o :: rest) a w):wpList P ops Q (o :: rest) a w:=h
end
theorem Qoz (tk:Int) (id:UInt64) (A:Option Addr) (n c:Nat):Tryz.prog.built 27 [(0,.int .i64 tk),(1,W64 id),(2,.slice A n c)]=some (emC tk id A n c).toArray:=by kernel_rfl
theorem Qqt (A:Option Addr) (n c:Nat) (da:List UInt8):Tryz.prog.built 36 [(0,.int .u8 1),(3,.int .i64 1),(4,.slice A n c)]=some (PaC ⟨1,0,0,1,da⟩ (.slice A n c)).toArray:=by kernel_rfl
def arK (da:List UInt8):Arr:=⟨⟨1,0,0,1,da⟩,2,0,0,Qa3⟩
theorem QqM (A:Option Addr) (n c:Nat) (da:List UInt8):Tryz.prog.built 60 [(0,.agg (PaC ⟨1,0,0,1,da⟩ (.slice A n c)).toArray),(1,.int .u8 2)]=some (AvC ⟨arK da,.slice A n c⟩).toArray:=by kernel_rfl
theorem QuT:(Tryz.prog.info? 27).map (fun i=>(i.zero,i.size))=some (some (.agg (EmC emt0).toArray),3):=by kernel_rfl
theorem Qty:(Tryz.prog.info? 47).map (fun i=>(i.zero,i.size,i.bytes))=some (some (.agg (NC nod0).toArray),66,88):=by kernel_rfl
theorem Qol {ops:Array Oper} {o:Oper} {a:Act} (hw:Region.wanted o (yielded ops a.tmps)=true) (x:Operand) (ho:o.op= .buildSlice 66 1 #[(0,x)]) {v:Arv} (hx:a.eval x= .agg (AvC v).toArray):
 Makes Tryz.prog ops o (fun g=>.slice (some ⟨g,0,none⟩) 1 1) (.cells (AvC v).toArray 60) a:=
 ⟨hw,fun w=>by
   have hr:=QhT (v:=.agg (AvC v).toArray) Tryz.underlying66 QnO (by omega) (by omega) rfl (Qak v) w
   unfold execOp
   simp only[ho,Qyw,QyJ,QyD,hx,Sem.run_bind,hr,Result.andThen_ok,Sem.run_pure]⟩
theorem QfJ (g pn c:Nat) (A:Option Addr) (bs:List UInt8) (w:World) (hB:Blk w g 60 (AvC ⟨arK bs,.slice A pn c⟩)) (hr:RdB w A pn bs) (hc:pn≤c) (h450:pn≤450):
 Calls Tryz.prog 23 #[.slice (some ⟨g,0,none⟩) 1 1] w fun e w'=>∃A' c' y,e= .returned (.slice A' 1 c')∧RdF LtC 4 lv0 w' A' 1 [y]∧OwnB w' w.heap.size y.va y.vn y.vc bs∧Later w w':=by
 have h:=Qgy (some ⟨g,0,none⟩) 1 1 [⟨arK bs,.slice A pn c⟩] w (Qsk hB) (fun x hx=>by obtain rfl:=QzI.1 hx;exact⟨A,pn,c,rfl,hc,hr⟩) (by omega)
 refine h.mono ?_
 rintro e w' ⟨v,ys,rfl,⟨bm,k,f,K,S⟩,hys⟩
 have hl:ys.map (·.lt)=[⟨0,0,0,bs⟩]:=hys.trans (QqE bs (by rw[hr.len];exact h450))
 obtain⟨y,rfl,hy⟩:∃y,ys=[y]∧y.lt=⟨0,0,0,bs⟩:=by
  cases ys with
  | nil=>simp at hl
  | cons y ys=>
    cases ys with
    | cons _ _=>simp at hl
    | nil=>exact⟨y,rfl,by simpa using hl⟩
 obtain⟨A',c',rfl,_⟩:=Qhx S.own
 have ht:=S.txt y (by simp)
 rw[hy]at ht
 exact⟨A',c',y,rfl,Qev (d:=lv0) Qfu S.own rfl,ht,S.lat⟩
set_option maxRecDepth 100000 in
set_option maxHeartbeats 8000000 in
theorem Qhi (A:Option Addr) (n c:Nat) (xs:List Nod) (y:Emt) (w:World) (hx:RdN w A n xs) (hn:n≤1048576) (hs:∀x∈xs,x.nm.size≤140737488355328) (hy:EmOk w y) (hyn:y.n≤1048576):
 Calls Tryz.prog 5 #[.slice A n c,.agg (EmC y).toArray] w fun e w'=>e= .returned (.bool true)∧Later w w':=by
 obtain⟨tk,id,bs,PA,pn,pc⟩:=y
 obtain⟨hnc,hb⟩:=hy
 simp only at hnc hb hyn
 have hbl:=hb.len
 have C1:Bag w _ ([(w.heap.size,27,emC tk id PA pn pc)]++([]:List Ent).filterMap blE):=Qbh w 27 (emC tk id PA pn pc)
 have hSp:=hid (fun (w:World) h=>QnJ PA pn pc bs w h (by omega))
 rw[Qht]at hSp
 have hKp:=hid (fun (w:World) g h1 h2=>Qqd (some ⟨g,0,none⟩) PA pn (pn+40) pc bs w h1 h2 (by omega))
 have hCa:=hid (fun A2 c2 B2 w h1 h2=>QhV A2 B2 n c2 pn (pn+40) xs tk id bs w h1 hn hs h2 (by omega))
 have hRb:=Qi8 xs tk id bs
 have hRv:=QhA xs tk id bs
 have hDe:=hid (fun A2 c2 g D w h1 h2 h3=>QkE A2 D n c2 2 2 xs [⟨tk,id,bs,some ⟨g,0,none⟩,pn,pn+40⟩,⟨tk,id,bs,some ⟨g,0,none⟩,pn,pn+40⟩] w h1 hn hs h2 h3 (by omega))
 have hSm:=hid (fun A2 c2 w h1 h2=>Quw A2 A n c2 c xs w h1 h2 (by omega))
 generalize Qa7 xs tk id bs=R at *
 have hAs:=QhF R.vs R.bd R.tk hRb
 have hAr:=hid (fun A3 c3 B3 d3 w h1 h2 h3=>QlM A3 B3 R.vs.length c3 R.bd.length d3 R.vs R.bd R.tk w h1 (by omega) h2 h3)
 have hEq:=hid (fun A3 B3 c3 d3 w h1 h2=>QgC A3 B3 R.bd.length R.bd.length c3 d3 R.bd R.bd w h1 h2 (by omega) (by omega))
 rw[decide_eq_true rfl]at hEq
 generalize arvE R.vs R.bd=AE at *
 generalize arvA R.vs R.bd R.tk=AA at *
 have hbe:=hid Qoz
 have hbp:=hid Qqt
 have hba:=hid QqM
 go_enter Tryz.func5,Tryz.ntmps5
 go_wp2_with fail
 (with_reducible refine (Quu _).mono ?_);rintro e w1 ⟨rfl,j1⟩
 have C2:=C1.later j1
 have e2:=(C2.nth 0 rfl).cellD 2 (u:=.slice PA pn pc) rfl
 go_wp2_with fail
 refine (hSp.out w1 (hb.later C2.lat)).mono ?_
 rintro e w2 ⟨rfl,hb2,j2⟩
 have C3:=C2.addEntK j2 (some (w1.heap.size,pn+40,pn+40,bs.map W8++QbD bs)) (fun p hp=>by cases hp;exact⟨Qyv _,hb2⟩)
 clear hb2 hSp C1
 generalize w1.heap.size=g0 at *
 have e0:=(C3.nth 0 rfl).cellD 0 (u:=.int .i64 tk) rfl
 have e1:=(C3.nth 0 rfl).cellD 1 (u:=W64 id) rfl
 go_wp2_with (first
  | (refine go_a rfl ?_;refine Qf6 (F:=NC) (d:=nod0) QaR (by omega) rfl _ _ _ rfl 47 _ 88 Tryz.underlying22 Qty rfl w2.heap.size A n c xs (hx.later (C3.lat.trans (Qaa _ _))) rfl rfl (by omega) (by omega) ?_;intro A7 c7 w3 hx7 l3
     have J3:=(Qaa w2 (.cells #[] 47)).trans l3
     have C4:=C3.later J3
     have e0:=(C4.nth 0 rfl).cellD 0 (u:=.int .i64 tk) rfl
     have e1:=(C4.nth 0 rfl).cellD 1 (u:=W64 id) rfl)
  | (refine go_b rfl ?_;refine Qah ?hw 27 _ rfl (emC tk id (some ⟨g0,0,none⟩) pn (pn+40)) (by simp only[Qyw,QyJ,QyD];exact hbe.out _ _ _ _ _) ?_;(case hw=>rfl))
  | (refine QbS rfl ?_;refine Qae rfl rfl _ _ _ rfl w3.heap.size _ _ (emC tk id (some ⟨g0,0,none⟩) pn (pn+40)) (Blk.new w3 _ (EmC emt0)) rfl rfl 3 Qf9 rfl rfl (Qoo ⟨tk,id,bs,some ⟨g0,0,none⟩,pn,pn+40⟩) ?_;intro w4 hb4 ho4
     have C5:Bag w w4 ([(w3.heap.size,27,emC tk id (some ⟨g0,0,none⟩) pn (pn+40)),(w.heap.size,27,emC tk id PA pn pc)]++[some (g0,pn+40,pn+40,bs.map W8++QbD bs)].filterMap blE):=C4.push (Qaa _ _) (Qyv _) ho4 hb4
     have J4:Later w3 w4:=(Qaa w3 _).only ho4 (Qyv _))
  | (refine go_l rfl ?_;refine Qam ?hw _ _ rfl w3.heap.size 0 (emC tk id (some ⟨g0,0,none⟩) pn (pn+40)) (fun j v hv=>by rw[QyE];exact (C5.nth 0 rfl).cellD j hv) rfl _ Tryz.underlying27 rfl Qf9 ?_;(case hw=>rfl))
  | fail)
 clear C3 C4 hb4 ho4 e0 e1 e2
 have hx4:=hx7.later J4
 have hmem:∀(ls:List (Nat×TypeId×List Value)) (E:List Ent),some (g0,pn+40,pn+40,bs.map W8++QbD bs)∈E→(g0,5,bs.map W8++QbD bs)∈ls++E.filterMap blE:=fun ls E h=>List.mem_append_right _ (QzR.2 ⟨_,h,rfl⟩)
 refine (hCa.out A7 c7 (some ⟨g0,0,none⟩) w4 hx4 (QeD (C5.blk _ (hmem _ _ (by simp))) hbl)).mono ?_
 rintro e w5 ⟨A8,c8,B8,d8,rfl,rv8,ob8,j5⟩
 obtain⟨f1,he1,hk1,hb1⟩:=QcZ ob8 (by omega)
 have C6:=C5.addEntK j5 f1 hb1
 generalize hg3:w3.heap.size=g3 at *
 clear C5 hb1 hg3
 go_wp2_with (first
  | (refine QbS rfl ?_;refine Qae rfl rfl _ _ _ rfl w5.heap.size _ _ (tr1 A8 R.vs.length c8 B8 R.bd.length d8 R.tk) (Blk.new w5 _ tz0) rfl rfl 3 Qbp rfl rfl (QdX _ _ _ _ _ _ _) ?_;intro w6 hb6 ho6
     have C7:Bag w w6 ([(w5.heap.size,41,tr1 A8 R.vs.length c8 B8 R.bd.length d8 R.tk),(g3,27,emC tk id (some ⟨g0,0,none⟩) pn (pn+40)),(w.heap.size,27,emC tk id PA pn pc)]++[f1,some (g0,pn+40,pn+40,bs.map W8++QbD bs)].filterMap blE):=C6.push (Qaa _ _) (Qyv _) ho6 hb6
     have J6:Later w5 w6:=(Qaa w5 _).only ho6 (Qyv _))
  | (refine go_l rfl ?_;refine Qam ?hw _ _ rfl g3 0 (emC tk id (some ⟨g0,0,none⟩) pn (pn+40)) (fun j v hv=>by rw[QyE];exact (C7.nth 1 rfl).cellD j hv) rfl _ Tryz.underlying27 rfl Qf9 ?_;(case hw=>rfl))
  | fail)
 have hx6:=hx4.later (j5.trans J6)
 refine (hCa.out A7 c7 (some ⟨g0,0,none⟩) w6 hx6 (QeD (C7.blk _ (hmem _ _ (by simp))) hbl)).mono ?_
 rintro e w7 ⟨A9,c9,B9,d9,rfl,rv9,ob9,j7⟩
 obtain⟨f2,he2,hk2,hb2⟩:=QcZ ob9 (by omega)
 have C8:=C7.addEntK j7 f2 hb2
 have rd8:=OwnB.rd ob8
 have cp8:=OwnB.cap ob8
 have rd9:=OwnB.rd ob9
 generalize hg5:w5.heap.size=g5 at *
 clear C6 C7 hb2 hg5 hb6 ho6 hCa ob8 ob9
 have L7:=J6.trans j7
 go_wp2_with (first
  | (refine QbS rfl ?_;refine Qae rfl rfl _ _ _ rfl w7.heap.size _ _ (tr1 A9 R.vs.length c9 B9 R.bd.length d9 R.tk) (Blk.new w7 _ tz0) rfl rfl 3 Qbp rfl rfl (QdX _ _ _ _ _ _ _) ?_;intro w8 hb8 ho8
     have C9:Bag w w8 ([(w7.heap.size,41,tr1 A9 R.vs.length c9 B9 R.bd.length d9 R.tk),(g5,41,tr1 A8 R.vs.length c8 B8 R.bd.length d8 R.tk),(g3,27,emC tk id (some ⟨g0,0,none⟩) pn (pn+40)),(w.heap.size,27,emC tk id PA pn pc)]++[f2,f1,some (g0,pn+40,pn+40,bs.map W8++QbD bs)].filterMap blE):=C8.push (Qaa _ _) (Qyv _) ho8 hb8
     have J8:Later w7 w8:=(Qaa w7 _).only ho8 (Qyv _))
  | (refine go_l rfl ?_;refine Qam ?hw _ _ rfl g5 0 (tr1 A8 R.vs.length c8 B8 R.bd.length d8 R.tk) (fun j v hv=>by rw[QyE];exact (C9.nth 1 rfl).cellD j hv) rfl _ Tryz.underlying41 rfl Qbp ?_;(case hw=>rfl))
  | fail)
 have rv8':=rv8.later (L7.trans J8)
 have rd8':=RdB.later rd8 (L7.trans J8)
 have rd9':=RdB.later rd9 J8
 have hx8:=hx6.later (j7.trans J8)
 refine (hAr.out A8 c8 B8 d8 w8 rv8' rd8' cp8).mono ?_
 rintro e w9 ⟨A10,c10,rfl,o10,j9⟩
 obtain⟨e3,he3,hk3,hb3⟩:=QcZ o10 (by omega)
 have C10:=C9.addEntK j9 e3 hb3
 generalize hg7:w7.heap.size=g7 at *
 clear C8 C9 hb3 hg7 hb8 ho8 o10 rv8 rd8 rd9 rv9 L7
 go_wp2_with (first
  | (refine QbS rfl ?_;refine Qae rfl rfl _ _ _ rfl w9.heap.size _ _ (AvC ⟨AA,.slice A10 AA.pt.da.length c10⟩) (Blk.new w9 _ (AvC av0)) rfl rfl 24 Qaw (Qak _) (Qak av0) (QaX _ _ _ _) ?_;intro w10 hb10 ho10
     have C11:Bag w w10 ([(w9.heap.size,60,AvC ⟨AA,.slice A10 AA.pt.da.length c10⟩),(g7,41,tr1 A9 R.vs.length c9 B9 R.bd.length d9 R.tk),(g5,41,tr1 A8 R.vs.length c8 B8 R.bd.length d8 R.tk),(g3,27,emC tk id (some ⟨g0,0,none⟩) pn (pn+40)),(w.heap.size,27,emC tk id PA pn pc)]++[e3,f2,f1,some (g0,pn+40,pn+40,bs.map W8++QbD bs)].filterMap blE):=C10.push (Qaa _ _) (Qyv _) ho10 hb10
     have J10:Later w9 w10:=(Qaa w9 _).only ho10 (Qyv _))
  | (refine go_l rfl ?_;refine Qam ?hw _ _ rfl g5 0 (tr1 A8 R.vs.length c8 B8 R.bd.length d8 R.tk) (fun j v hv=>by rw[QyE];exact (C11.nth 2 rfl).cellD j hv) rfl _ Tryz.underlying41 rfl Qbp ?_;(case hw=>rfl))
  | fail)
 have L9:=j9.trans J10
 refine (hAr.out A8 c8 B8 d8 w10 (rv8'.later L9) (RdB.later rd8' L9) cp8).mono ?_
 rintro e w11 ⟨A11,c11,rfl,o11,j11⟩
 obtain⟨e4,he4,hk4,hb4⟩:=QcZ o11 (by omega)
 have C12:=C11.addEntK j11 e4 hb4
 generalize hg9:w9.heap.size=g9 at *
 clear C10 C11 hb4 hg9 hb10 ho10 o11 hAr rv8'
 go_wp2_with (first
  | (refine QbS rfl ?_;refine Qae rfl rfl _ _ _ rfl w11.heap.size _ _ (AvC ⟨AA,.slice A11 AA.pt.da.length c11⟩) (Blk.new w11 _ (AvC av0)) rfl rfl 24 Qaw (Qak _) (Qak av0) (QaX _ _ _ _) ?_;intro w12 hb12 ho12
     have C13:Bag w w12 ([(w11.heap.size,60,AvC ⟨AA,.slice A11 AA.pt.da.length c11⟩),(g9,60,AvC ⟨AA,.slice A10 AA.pt.da.length c10⟩),(g7,41,tr1 A9 R.vs.length c9 B9 R.bd.length d9 R.tk),(g5,41,tr1 A8 R.vs.length c8 B8 R.bd.length d8 R.tk),(g3,27,emC tk id (some ⟨g0,0,none⟩) pn (pn+40)),(w.heap.size,27,emC tk id PA pn pc)]++[e4,e3,f2,f1,some (g0,pn+40,pn+40,bs.map W8++QbD bs)].filterMap blE):=C12.push (Qaa _ _) (Qyv _) ho12 hb12
     have J12:Later w11 w12:=(Qaa w11 _).only ho12 (Qyv _))
  | (refine go_l rfl ?_;refine Qam ?hw _ _ rfl g3 0 (emC tk id (some ⟨g0,0,none⟩) pn (pn+40)) (fun j v hv=>by rw[QyE];exact (C13.nth 4 rfl).cellD j hv) rfl _ Tryz.underlying27 rfl Qf9 ?_;(case hw=>rfl))
  | (refine Qxe rfl ?_;refine Qnp ?hw 65 _ _ rfl 27 3 _ (emC tk id (some ⟨g0,0,none⟩) pn (pn+40)) (emC tk id (some ⟨g0,0,none⟩) pn (pn+40)) Tryz.underlying65 QuT (by omega) (by omega) rfl rfl rfl rfl ?_;(case hw=>rfl))
  | fail)
 have C14:=C13.later (Qaa w12 (.cells (emC tk id (some ⟨g0,0,none⟩) pn (pn+40)++emC tk id (some ⟨g0,0,none⟩) pn (pn+40)).toArray 27))
 have hE2:RdF EmC 3 emt0 (w12.alloc (.cells (emC tk id (some ⟨g0,0,none⟩) pn (pn+40)++emC tk id (some ⟨g0,0,none⟩) pn (pn+40)).toArray 27)) (some ⟨w12.heap.size,0,none⟩) 2 [⟨tk,id,bs,some ⟨g0,0,none⟩,pn,pn+40⟩,⟨tk,id,bs,some ⟨g0,0,none⟩,pn,pn+40⟩]:=Qgw QmG (Blk.new w12 _ _) rfl
 have hx12:=hx8.later ((L9.trans (j11.trans J12)).trans (Qaa w12 (.cells (emC tk id (some ⟨g0,0,none⟩) pn (pn+40)++emC tk id (some ⟨g0,0,none⟩) pn (pn+40)).toArray 27)))
 have rdS:=QeD (C14.blk _ (hmem _ _ (by simp))) hbl
 refine (hDe.out A7 c7 g0 (some ⟨w12.heap.size,0,none⟩) _ hx12 hE2 (fun q hq=>by simp only[QyI,QyN,or_false,or_self]at hq;subst hq;exact⟨by simp,rdS⟩)).mono ?_
 rintro e w13 ⟨A13,c13,gs,rfl,own13,hgl,hgm,hgo,hgn,j13⟩
 obtain⟨G,hG1,hG2,hG3⟩:=Qqe gs hgo (fun g hg=>QmO _ (by rw[←hgm];exact Qy1.2 ⟨g,hg,rfl⟩))
 have C15:=C14.addEnts j13 G hG3 (Qrh hG1 hgn)
 have hGl:G.length=gs.length:=by
  have:=congrArg List.length hG1
  simpa using this
 have rA13:=Qev (d:=aw0) Qbb own13 rfl
 generalize hg11:w11.heap.size=g11 at *
 clear C12 C13 C14 hg11 hb12 ho12 hDe hE2 rdS hgo hG3 hgn
 have L10:=L9.trans ((j11.trans J12).trans ((Qaa w12 (.cells (emC tk id (some ⟨g0,0,none⟩) pn (pn+40)++emC tk id (some ⟨g0,0,none⟩) pn (pn+40)).toArray 27)).trans j13))
 have rdA:=RdB.later rd8' L10
 have rdB':=RdB.later rd9' L10
 have e2:=(C15.nth 5 rfl).cellD 2 (u:=.slice PA pn pc) rfl
 have b1:=(C15.nth 3 rfl).cellD 1 (u:=.slice B8 R.bd.length d8) rfl
 have b2:=(C15.nth 2 rfl).cellD 1 (u:=.slice B9 R.bd.length d9) rfl
 go_wp2_with fail
 refine (hKp.out w13 g0 (QpO (C15.blk _ (hmem _ _ (by simp))) hbl) (hb.later C15.lat)).mono ?_
 rintro e w14 ⟨rfl,j14⟩
 have C16:=C15.later j14
 have b1:=(C16.nth 3 rfl).cellD 1 (u:=.slice B8 R.bd.length d8) rfl
 have b2:=(C16.nth 2 rfl).cellD 1 (u:=.slice B9 R.bd.length d9) rfl
 go_wp2_with fail
 refine (hSm.out A7 c7 w14 (hx12.later (j13.trans j14)) (hx.later C16.lat)).mono ?_
 rintro e w15 ⟨rfl,j15⟩
 have C17:=C16.later j15
 have b1:=(C17.nth 3 rfl).cellD 1 (u:=.slice B8 R.bd.length d8) rfl
 have b2:=(C17.nth 2 rfl).cellD 1 (u:=.slice B9 R.bd.length d9) rfl
 go_wp2_with fail
 refine (hEq.out B8 B9 d8 d9 w15 (RdB.later rdA (j14.trans j15)) (RdB.later rdB' (j14.trans j15))).mono ?_
 rintro e w16 ⟨rfl,j16⟩
 have C18:=C17.later j16
 have b1:=(C18.nth 3 rfl).cellD 1 (u:=.slice B8 R.bd.length d8) rfl
 have b2:=(C18.nth 2 rfl).cellD 1 (u:=.slice B9 R.bd.length d9) rfl
 have b3:=(C18.nth 1 rfl).cellD 4 (u:=.slice A10 AA.pt.da.length c10) rfl
 have b4:=(C18.nth 0 rfl).cellD 4 (u:=.slice A11 AA.pt.da.length c11) rfl
 have rA:=rA13.later ((j14.trans j15).trans j16)
 have hlo16:w.heap.size≤w16.heap.size:=C18.lat.size
 clear C15 C16 C17 hKp hSm hEq rdA rdB' hx12 own13 rA13
 have hv5:Hid (([.slice (some ⟨g0,0,none⟩) (pn+40) (pn+40),.slice B8 R.bd.length d8,.slice B9 R.bd.length d9,.slice A10 AA.pt.da.length c10,.slice A11 AA.pt.da.length c11]:List Value)=([some (g0,pn+40,pn+40,bs.map W8++QbD bs),f1,f2,e3,e4]:List Ent).map slE):=hid (by
  simp only[QyJ,QyD,he1,he2,he3,he4]
  rfl)
 have own0:=Qn2 w16 25 [.slice (some ⟨g0,0,none⟩) (pn+40) (pn+40),.slice B8 R.bd.length d8,.slice B9 R.bd.length d9,.slice A10 AA.pt.da.length c10,.slice A11 AA.pt.da.length c11] (by simp)
 have jA:=Qaa w16 (.cells ([.slice (some ⟨g0,0,none⟩) (pn+40) (pn+40),.slice B8 R.bd.length d8,.slice B9 R.bd.length d9,.slice A10 AA.pt.da.length c10,.slice A11 AA.pt.da.length c11]:List Value).toArray 25)
 have own1:(w16.alloc (.cells ([.slice (some ⟨g0,0,none⟩) (pn+40) (pn+40),.slice B8 R.bd.length d8,.slice B9 R.bd.length d9,.slice A10 AA.pt.da.length c10,.slice A11 AA.pt.da.length c11]:List Value).toArray 25)).ownsRow w16.heap.size 25 1 (.slice (some ⟨w16.heap.size,0,none⟩) (5+0) 5) (5+0) (([some (g0,pn+40,pn+40,bs.map W8++QbD bs),f1,f2,e3,e4]++G.take 0).map slE):=by
  rw[QzK,QyT,←hv5.out]
  exact own0
 clear own0 hv5
 go_wp2_with fail
 have hfE:okE (some (g0,pn+40,pn+40,bs.map W8++QbD bs)):=⟨Qyv _,by rw[Qyz,Qyo,hbl,QeH];omega,by omega⟩
 have hGs:Hid (∀ k,k<gs.length→slE (G.getD k none)= .slice (gs.getD k aw0).va (gs.getD k aw0).vn (gs.getD k aw0).vc):=hid (fun k hk=>by
  have:=congrArg (fun l=>l[k]?) hG1
  simp only[QyF]at this
  rw[Qyq (by omega),Qyq hk]at this
  rw[Qyt,Qyq (by omega),Qyt,Qyq hk]
  simpa using this)
 have hGt:Hid (∀ k,k<gs.length→G.take (k+1)=G.take k++[G.getD k none]):=hid (fun k hk=>by
  rw[QyR (by omega),Qyt,Qyq (by omega)]
  rfl)
 have hGa:Hid (G.take gs.length=G):=hid (QyA (by omega))
 clear hG1 hGl
 generalize hX:([some (g0,pn+40,pn+40,bs.map W8++QbD bs),f1,f2,e3,e4]:List Ent)=X at *
 replace hX:=hid hX
 go_loopw [18,101] (fun v18 iv wr=>∃(k:Nat) (A':Option Addr) (c':Nat),k≤gs.length∧iv= .int .i64 k∧v18= .slice A' (5+k) c'∧wr.ownsRow w16.heap.size 25 1 (.slice A' (5+k) c') (5+k) ((X++G.take k).map slE)∧Later w16 wr) (fun _ iv _=>gs.length-(intOf iv).toNat)
 case atStart=>exact⟨0,_,5,by omega,rfl,rfl,own1,jA⟩
 case round=>
  clear own1
  obtain⟨k,A17,c17,hk,rfl,rfl,own1,L⟩:=hrel
  by_cases hlt:k<gs.length
  ·obtain⟨ba,oa,rfl,hba,hca⟩:=(rA.later L).at_ hlt
   have hsk:=hGs.out k hlt
   have htk:=hid (hGt.out k hlt)
   generalize gs.getD k aw0=q at *
   generalize G.getD k none=eq0 at *
   replace hsk:=hid hsk
   go_wp2_with (first
    | (refine go_l rfl ?_;refine Qam ?hw _ _ rfl ba (oa+k*24) (ArC q) hca rfl _ Tryz.underlying60 rfl (by rw[Qbb];exact Qaw) ?_;(case hw=>rfl))
    | (refine QbS rfl ?_;refine Qae rfl rfl _ _ _ rfl wr.heap.size _ _ (ArC q) (Blk.new wr _ (AvC av0)) rfl rfl 24 Qaw (Qbb _) (Qak av0) (Qim _) ?_;intro w18 hb18 ho18
       have l18:Later wr w18:=(Qaa wr _).only ho18 (Qyv _)
       have d4:=hb18.cellD 4 (u:=.slice q.va q.vn q.vc) rfl)
    | (refine go_a rfl ?_;refine QaJ rfl _ _ _ rfl 25 _ 24 Tryz.underlying79 Qqn rfl w16 _ (5+k) _ (Qay own1 (l18.trans (Qaa w18 (.cells #[.slice q.va q.vn q.vc] 25)))) (L.trans (l18.trans (Qaa _ _))) (some ⟨w18.heap.size,0,none⟩) 1 1 [.slice q.va q.vn q.vc] ((Blk.new w18 25 [.slice q.va q.vn q.vc]).rd rfl) (by intro u hu;rw[QzI.1 hu];rfl) rfl rfl (by omega) (by omega) ?_;intro A19 c19 w19 own19 l19 g19 _)
    | fail)
   have own20:w19.ownsRow w16.heap.size 25 1 (.slice A19 (5+(k+1)) c19) (5+(k+1)) ((X++G.take (k+1)).map slE):=by
    rw[htk.out,←QyK,QyZ (l₂:=[eq0]),QyJ,QyD,hsk.out]
    exact own19
   exact⟨⟨k+1,A19,c19,by omega,by go_num,rfl,own20,l19⟩,by simp[intOf];omega⟩
  ·obtain rfl:k=gs.length:=by omega
   rw[hGa.out]at own1
   have C19:=C18.later L
   have e2:=(C19.nth 5 rfl).cellD 2 (u:=.slice PA pn pc) rfl
   clear hGs hGt C18 rA
   generalize hgn:gs.length=gn at *
   go_wp2_with fail
   refine (Qry PA pn pc bs wr (hb.later C19.lat) (by omega)).mono ?_
   rintro e w20 ⟨A20,c20,rfl,o20,j20⟩
   obtain⟨f5,he5,hk5,hb5⟩:=QcZ o20 (by omega)
   have C20:=C19.addEntK j20 f5 hb5
   have rd20:=OwnB.rd o20
   have cp20:=OwnB.cap o20
   have own2:=Qay own1 j20
   clear hb5 o20 own1 C19 e2
   by_cases h450:pn≤450
   case neg=>
    have f450:decide ((pn:Int)≤450)=false:=decide_eq_false (by omega)
    go_wp2_with (first
     | (refine go_b rfl ?_;refine Qah ?hw 36 _ rfl (PaC ⟨1,0,0,1,bs⟩ (.slice A20 pn c20)) (by simp only[Qyw,QyJ,QyD];exact hbp.out _ _ _ _) ?_;(case hw=>rfl))
     | (refine go_b rfl ?_;refine Qah ?hw 60 _ rfl (AvC ⟨arK bs,.slice A20 pn c20⟩) (by simp only[Qyw,QyJ,QyD];exact hba.out _ _ _ _) ?_;(case hw=>rfl))
     | (refine QbS rfl ?_;refine Qae rfl rfl _ _ _ rfl w20.heap.size _ _ (AvC ⟨arK bs,.slice A20 pn c20⟩) (Blk.new w20 _ (AvC av0)) rfl rfl 24 Qaw (Qak _) (Qak av0) (QaX _ _ _ _) ?_;intro w21 hb21 ho21
        have C21:Bag w w21 ([(w20.heap.size,60,AvC ⟨arK bs,.slice A20 pn c20⟩),(g11,60,AvC ⟨AA,.slice A11 AA.pt.da.length c11⟩),(g9,60,AvC ⟨AA,.slice A10 AA.pt.da.length c10⟩),(g7,41,tr1 A9 R.vs.length c9 B9 R.bd.length d9 R.tk),(g5,41,tr1 A8 R.vs.length c8 B8 R.bd.length d8 R.tk),(g3,27,emC tk id (some ⟨g0,0,none⟩) pn (pn+40)),(w.heap.size,27,emC tk id PA pn pc)]++(f5 :: (G++[e4,e3,f2,f1,some (g0,pn+40,pn+40,bs.map W8++QbD bs)])).filterMap blE):=C20.push (Qaa _ _) (Qyv _) ho21 hb21
        have l21:Later w20 w21:=(Qaa w20 _).only ho21 (Qyv _)
        have e2:=(C21.nth 6 rfl).cellD 2 (u:=.slice PA pn pc) rfl)
     | fail)
    have own3:=Qay own2 l21
    have C22:Bag w w21 ((G++[e4,e3,f2,f1,some (g0,pn+40,pn+40,bs.map W8++QbD bs)]).filterMap blE):=by
     have h:=C21.entsK
     rw[Qlg]at h
     exact h.sub (List.sublist_append_right _ _)
    have hPm:=QkH (some (g0,pn+40,pn+40,bs.map W8++QbD bs)) f1 f2 e3 e4 f5 G
    rw[hX.out]at hPm
    refine (Qhy C22 (X++G) hPm (fun e he=>?_) own3 (by omega)).mono ?_
    ·rw[←hX.out]at he
     rcases Qy8.1 he with he|he
     ·simp only[QyI,QyN,or_false]at he
      rcases he with rfl|rfl|rfl|rfl|rfl<;>assumption
     ·exact hG2 e he
    ·rintro e w22 ⟨rfl,j22,_⟩
     go_wp2_with fail
     go_ret
     exact⟨rfl,j22⟩
   have f450:decide ((pn:Int)≤450)=true:=decide_eq_true (by omega)
   go_wp2_with (first
    | (refine go_b rfl ?_;refine Qah ?hw 36 _ rfl (PaC ⟨1,0,0,1,bs⟩ (.slice A20 pn c20)) (by simp only[Qyw,QyJ,QyD];exact hbp.out _ _ _ _) ?_;(case hw=>rfl))
    | (refine go_b rfl ?_;refine Qah ?hw 60 _ rfl (AvC ⟨arK bs,.slice A20 pn c20⟩) (by simp only[Qyw,QyJ,QyD];exact hba.out _ _ _ _) ?_;(case hw=>rfl))
    | (refine QbS rfl ?_;refine Qae rfl rfl _ _ _ rfl w20.heap.size _ _ (AvC ⟨arK bs,.slice A20 pn c20⟩) (Blk.new w20 _ (AvC av0)) rfl rfl 24 Qaw (Qak _) (Qak av0) (QaX _ _ _ _) ?_;intro w21 hb21 ho21
       have C21:Bag w w21 ([(w20.heap.size,60,AvC ⟨arK bs,.slice A20 pn c20⟩),(g11,60,AvC ⟨AA,.slice A11 AA.pt.da.length c11⟩),(g9,60,AvC ⟨AA,.slice A10 AA.pt.da.length c10⟩),(g7,41,tr1 A9 R.vs.length c9 B9 R.bd.length d9 R.tk),(g5,41,tr1 A8 R.vs.length c8 B8 R.bd.length d8 R.tk),(g3,27,emC tk id (some ⟨g0,0,none⟩) pn (pn+40)),(w.heap.size,27,emC tk id PA pn pc)]++(f5 :: (G++[e4,e3,f2,f1,some (g0,pn+40,pn+40,bs.map W8++QbD bs)])).filterMap blE):=C20.push (Qaa _ _) (Qyv _) ho21 hb21
       have l21:Later w20 w21:=(Qaa w20 _).only ho21 (Qyv _)
       have e2:=(C21.nth 6 rfl).cellD 2 (u:=.slice PA pn pc) rfl)
    | fail)
   have own3:=Qay own2 l21
   have rd21:=RdB.later rd20 l21
   clear C20 own2 rd20 e2 hb21 ho21
   generalize hg20:w20.heap.size=g20 at *
   clear hg20
   have C22:=C21.drew
   refine Qa1 [0,3] [([],2,1),([],1,2),([],2,4),([],1,5)] [6,7] [] [1,4] (fun _=>(fun g=>.slice (some ⟨g,0,none⟩) 1 1,.cells (AvC ⟨arK bs,.slice A20 pn c20⟩).toArray 60)) (by as_aux_lemma=>kernel_rfl) (by as_aux_lemma=>kernel_rfl) (by intro _ _ d _ _ h;cases d<;>exact h) (by intro _ _ d _ _ h;cases d<;>exact h) ?_
   simp only[pick,Qym,Qyn,Qyp,Qys,Qyr]
   repeat (first|go_big_quiet_skip|(go_big_quiet_want;(refine QcJ _ _ rfl 0 (AvC ⟨arK bs,.slice A20 pn c20⟩) (C22.nth 0 rfl) rfl (fun j v hv=>by rw[QyE];exact hv) _ Tryz.underlying60 rfl (by rw[Qak];exact Qaw) ?_);simp only[Act.put,Qyu,Qyy,Qyx];go_big_quiet_on)|(go_big_quiet_step (fail)))
   refine wpQuiet_nil ?_
   refine⟨?mk,?_⟩
   case mk=>
    refine⟨fun o ho=>?_,fun o ho=>?_,trivial⟩
    all_goals
     simp only[Qym,Qyn,Option.some.injEq]at ho
     subst ho
     exact Qol rfl _ rfl rfl
   simp only[QbA,pick,Qym,Qyn,Qyp,Qys,Qyr,QAb]
   intro p1 ga q1 hga _ hba1
   refine wpQuiet_nil ?_
   intro p2 q2
   go_wp2_with fail
   refine (QfJ ga pn c20 A20 bs p2 (Blk.later (show Blk p1 ga _ (AvC ⟨arK bs,.slice A20 pn c20⟩) from hba1) q2) (RdB.later rd21 ((Qab w21).trans (q1.trans q2))) cp20 h450).mono ?_
   rintro e p3 ⟨A23,c23,y1,rfl,rv1,oy1,q3⟩
   go_wp2_with fail
   try refine⟨by first|assumption|exact Qab _|exact Qaa _ _|exact Later.refl _,?_⟩
   try simp only[Qaj,pick,Qym,Qyn,Qyp,Qys,Qyr]
   repeat (go_big_quiet_step (fail))
   refine wpQuiet_nil ?_
   intro p4 gb q4 hgb _ hbb1
   refine wpQuiet_nil ?_
   intro p5 q5
   go_wp2_with fail
   refine (QfJ gb pn c20 A20 bs p5 (Blk.later (show Blk p4 gb _ (AvC ⟨arK bs,.slice A20 pn c20⟩) from hbb1) q5) (RdB.later rd21 ((Qab w21).trans ((q1.trans q2).trans ((q3.trans q4).trans q5)))) cp20 h450).mono ?_
   rintro e p6 ⟨A24,c24,y2,rfl,rv2,oy2,q6⟩
   obtain⟨f6,he6,hk6,hb6⟩:=QcZ oy1 (by have:=(OwnB.rd oy1).len;omega)
   obtain⟨f7,he7,hk7,hb7⟩:=QcZ oy2 (by have:=(OwnB.rd oy2).len;omega)
   have C23:=(C22.later (q1.trans q2)).addEntK q3 f6 hb6
   have C24a:=(C23.later (q4.trans q5)).addEntK q6 f7 hb7
   go_wp2_with fail
   try refine⟨by first|assumption|exact Qab _|exact Qaa _ _|exact Later.refl _,?_⟩
   try simp only[Qaj,pick,Qym,Qyn,Qyp,Qys,Qyr]
   repeat (go_big_quiet_step (fail))
   refine wpQuiet_nil ?_
   intro p8 q8
   have C24:=C24a.later q8
   have L6:=(Qab w21).trans ((q1.trans q2).trans ((q3.trans q4).trans (q5.trans (q6.trans q8))))
   have rw1:=rv1.later ((q4.trans q5).trans (q6.trans q8))
   have rw2:=rv2.later q8
   have ry1:=RdB.later (OwnB.rd oy1) ((q4.trans q5).trans (q6.trans q8))
   have n1:=ry1.len
   have own4:=Qay own3 L6
   clear C21 C22 C23 C24a hb6 hb7 oy1 oy2 hba1 hbb1 rv1 rv2 q1 q2 q3 q4 q5 q6 q8 rd21 own3 hga hgb
   go_wp2_with fail
   obtain⟨r1,s1,rfl,hr1,hc1⟩:=rw1.at_ (k:=0) (by omega)
   obtain⟨r2,s2,rfl,hr2,hc2⟩:=rw2.at_ (k:=0) (by omega)
   have t1:p8.cell? ⟨r1,s1+3,none⟩=some (.slice y1.va y1.vn y1.vc):=hc1 3 _ rfl
   have t2:p8.cell? ⟨r2,s2+3,none⟩=some (.slice y2.va y2.vn y2.vc):=hc2 3 _ rfl
   have C25:=C24.drew
   have u1:=((Qab p8).below.cell (p:=⟨r1,s1+3,none⟩) hr1).trans t1
   have v1:=QyL hr1 (Qab p8).size
   have e2:=(C25.nth 6 rfl).cellD 2 (u:=.slice PA pn pc) rfl
   have l2:=(C25.nth 6 rfl).lt
   refine Qad [([0,1,2,3,4,5,6,7,8,9,10,11,12,13,14],15)] [16,17] [] (by as_aux_lemma=>kernel_rfl) (by as_aux_lemma=>kernel_rfl) (by intro _ _ d _ _ h;cases d<;>exact h) ?_
   simp only[Qaj,pick,Qym,Qyn,Qyp,Qys,Qyr]
   repeat (go_big_quiet_step (fail))
   refine wpQuiet_nil ?_
   go_wp2_with fail
   have hEq2:=QgC y1.va PA y1.vn pn y1.vc pc bs bs p8.drew (RdB.later ry1 (Qab _)) (hb.later C25.lat) (by omega) (by omega)
   rw[decide_eq_true rfl]at hEq2
   refine hEq2.mono ?_
   rintro e p7 ⟨rfl,j7⟩
   clear hEq2
   go_wp2_with fail
   try refine⟨by first|assumption|exact Qab _|exact Qaa _ _|exact Later.refl _,?_⟩
   try simp only[Qaj,pick,Qym,Qyn,Qyp,Qys,Qyr]
   repeat (go_big_quiet_step (fail))
   refine wpQuiet_nil ?_
   go_wp2_with fail
   have C26:=(C25.later j7).drew
   have L8:=((Qab p8).trans j7).trans (Qab p7)
   have u1:=(L8.below.cell (p:=⟨r1,s1+3,none⟩) hr1).trans t1
   have u2:=(L8.below.cell (p:=⟨r2,s2+3,none⟩) hr2).trans t2
   have v1:=QyL hr1 L8.size
   have v2:=QyL hr2 L8.size
   have u3:=(C26.nth 0 rfl).cellD 4 (u:=.slice A20 pn c20) rfl
   have l3:=(C26.nth 0 rfl).lt
   have own5:=Qay own4 L8
   refine Qad [] [0,1,2,3,4,5,6,7,8,9,10,11] [12,13,14] (by as_aux_lemma=>kernel_rfl) (by as_aux_lemma=>kernel_rfl) (by intro _ _ d _ _ h;cases d<;>exact h) ?_
   simp only[Qaj,pick,Qym,Qyn,Qyp,Qys,Qyr]
   repeat (go_big_quiet_step (fail))
   refine wpQuiet_nil ?_
   have Lall:=L.trans (j20.trans (l21.trans (L6.trans L8)))
   have C27:=C26.entsK.later (Qaa p7.drew (.cells #[.slice y1.va y1.vn y1.vc,.slice y2.va y2.vn y2.vc,.slice A20 pn c20] 25))
   have own6:=Qay own5 (Qaa p7.drew (.cells #[.slice y1.va y1.vn y1.vc,.slice y2.va y2.vn y2.vc,.slice A20 pn c20] 25))
   have hty:∀p∈(f7 :: f6 :: f5 :: (G++[e4,e3,f2,f1,some (g0,pn+40,pn+40,bs.map W8++QbD bs)])).filterMap blE,p.2.1≠25:=fun p hp=>by
    rw[Qli p hp]
    decide
   have hlo:w.heap.size≤w16.heap.size:=hlo16
   clear C25 C26 own5 u1 u2 u3 v1 v2 l3 e2 l2
   go_wp2_with (first
    | (refine go_a rfl ?_;refine QaJ rfl _ _ _ rfl 25 _ 24 Tryz.underlying79 Qqn rfl w16 _ (5+gn) _ own6 (Lall.trans (Qaa _ _)) (some ⟨p7.drew.heap.size,0,none⟩) 3 3 [.slice y1.va y1.vn y1.vc,.slice y2.va y2.vn y2.vc,.slice A20 pn c20] ((Blk.new p7.drew 25 [.slice y1.va y1.vn y1.vc,.slice y2.va y2.vn y2.vc,.slice A20 pn c20]).rd rfl) (by intro u hu;simp only[QyI,QyN,or_false]at hu;rcases hu with rfl|rfl|rfl<;>rfl) rfl rfl (by omega) (by omega) ?_;intro A30 c30 w30 own30 l30 g30 _
       have C28:=Bag.grown C27 own6 hty hlo g30)
    | fail)
   have own31:w30.ownsRow w16.heap.size 25 1 (.slice A30 (5+gn+3) c30) (5+gn+3) ((X++G++[f6,f7,f5]).map slE):=by
    rw[QyZ (l₂:=[f6,f7,f5]),QyJ,QyJ,QyJ,QyD,he6,he7,he5]
    exact own30
   have hPm:=Qmr (some (g0,pn+40,pn+40,bs.map W8++QbD bs)) f1 f2 e3 e4 f5 f6 f7 G
   rw[hX.out]at hPm
   refine (Qhy C28 (X++G++[f6,f7,f5]) hPm (fun e he=>?_) own31 (by omega)).mono ?_
   ·rw[←hX.out]at he
    rcases Qy8.1 he with he|he
    ·rcases Qy8.1 he with he|he
     ·simp only[QyI,QyN,or_false]at he
      rcases he with rfl|rfl|rfl|rfl|rfl<;>assumption
     ·exact hG2 e he
    ·simp only[QyI,QyN,or_false]at he
     rcases he with rfl|rfl|rfl<;>assumption
   ·rintro e w31 ⟨rfl,j31,_⟩
    go_wp2_with fail
    go_ret
    exact⟨rfl,j31⟩
end Go.Proofs.YtcbdgnlcknllnaaGreat
