/-
  Lemmas for the last text of this claim (part 20 of 20).
-/
import Derived.ArgAppend
import Derived.BigQuiet
import Derived.BigRegion
import Derived.ChangeOld
import Derived.Deep.RegionWith
import Derived.DeepKeys4
import Derived.JoinedCond
import Derived.LaidMore
import Derived.Laws.Append
import Derived.Laws.BytesArg
import Derived.Laws.CopyOwn
import Derived.Laws.Externs
import Derived.Laws.IdiomStrings
import Derived.Laws.Tables
import Derived.Lib.AppendStr
import Derived.Lib.AppendZerosOnto
import Derived.Lib.Mul64
import Derived.Lib.SlBytesConst
import Derived.LoopN
import Derived.Maps.OwnSet
import Derived.OpenShut
import Derived.OrdersHeld
import Derived.ProofKit
import Derived.Shelf.Spec.BitsCarry
import Derived.ShutString
import Derived.Test.YticcbmhcgmhohaaGreatProg
import Derived.Test.YticcbmhcgmhohaaGreatRows
import Derived.WalkKit
import Derived.WalkLawsBesides
import Derived.WalkSpells
import Derived.Test.YticcbmhcgmhohaaGreatPP
import Derived.Test.YticcbmhcgmhohaaGreatPR
import Derived.Test.YticcbmhcgmhohaaGreatPS
open Array renaming size_push → QEZ
open List renaming replicate → QCC, getElem?_cons_succ → QCD, getElem?_cons_zero → QCE, length_map → QCF, nil_append → QCH, cons_append → QCI, getElem?_eq_getElem → QCJ, getD_eq_getElem?_getD → QCK, setIfInBounds_toArray → QCL, length_append → QCM, set_cons_zero → QCN, set_cons_succ → QCO, take_of_length_le → QCQ, length_replicate → QCS, map_toArray → QCT, getElem?_map → QCY, map_nil → QC3, map_cons → QC9, drop_left' → QDj, take_left' → QDx, getElem?_drop → QDE, drop_zero → QD7
open Nat renaming le_refl → QCP, lt_of_lt_of_le → QCX, zero_add → QC4, le_trans → QDm, sub_self → QDL, le_mul_of_pos_right → QDO, add_zero → QD8, zero_mul → QEA, sub_zero → QE0, le_of_eq → QE1
open Option renaming toList_some → QCG, bind_some → QD1
set_option linter.all false
namespace Go.Proofs.YticcbmhcgmhohaaGreat
open Go.RowKit
open Go.BigFrame
def unS (st:Nat→List UInt8) (b:List UInt8):Nat→List UInt8
 | 0=>b
 | k+1=>Qb9 (kPay (st k)) (unS st b k) rsO
theorem Qk8 {key b:List UInt8} (hk:key.length=32) (hb:b.length=480):(Qb9 key b rsO).length=480∧Qb9 key (Qb9 key b rsO) rsS=b:=by
 have h:QdF key b rsO=0:=Qeg okO ⟨hk,by omega,by omega⟩
 obtain⟨h1,_,h3⟩:=Qge h
 rw[show rsO.reverse=rsS by decide]at h3
 exact⟨by rw[h1,hb],h3⟩
theorem QgV {st:Nat→List UInt8} {b:List UInt8} (hst:∀k,(st k).length=192) (hb:b.length=480):∀k,(unS st b k).length=480
 | 0=>hb
 | k+1=>(Qk8 (Qaq (by rw[hst];omega)) (QgV hst hb k)).1
theorem Qmn {n:Nat} {st:Nat→List UInt8} {b:List UInt8} (hst:∀k,(st k).length=192) (hb:b.length=480):∀j,j≤n→seaA n st (unS st b n) j=unS st b (n-j)
 | 0,_=>rfl
 | j+1,hj=>by
   have hk:(kPay (st (n-1-j))).length=32:=Qaq (by rw[hst];omega)
   have hu:=QgV hst hb (n-1-j)
   rw[seaA,Qmn hst hb j (by omega),show n-j=(n-1-j)+1 by omega,unS,(Qk8 hk hu).2,show n-(j+1)=n-1-j by omega]
def repB (sc own:List UInt8) (hs:List Hp) (msg:List UInt8):List UInt8:=unS (Qcv sc (pubH hs)) (useB own msg) hs.length
def repP (sc own:List UInt8) (mk:Y16) (hs:List Hp) (msg:List UInt8) (i:Nat):List UInt8:=pktA hs.length (fun i=>encB (Qcu (lcG 4 mk) hs i)) (Qcv sc (pubH hs)) (repB sc own hs msg) i
theorem Qt4 {sc own:List UInt8} {mk:Y16} {hs:List Hp} {msg:List UInt8} (ho:own.length=32) (hm:msg.length≤450):hdrG sc mk hs++useB own msg=repP sc own mk hs msg 0:=by
 rw[repP,pktA,hdrG,repB,Qmn (Qbj _ _) (QiD ho hm).2 _ (by omega),QE0,QE0,QDL,unS]
theorem Qes {sc own:List UInt8} {hs:List Hp} {msg:List UInt8} (ho:own.length=32) (hm:msg.length≤450):(repB sc own hs msg).length=480:=QgV (Qbj _ _) (QiD ho hm).2 _
theorem QwH {sc own:List UInt8} {mk:Y16} {hs:List Hp} {msg:List UInt8} (h:Qmk hs sc own mk) (hm:msg.length≤450) (i:Nat):(repP sc own mk hs msg i).length=768:=by
 obtain⟨_,h2,_,h4,_⟩:=h
 obtain⟨_,_,h5,h6,_,_⟩:=QcX h4
 exact (QoA h5 h6 (fun _=>QcE _) (Qbj _ _) (Qes h2 hm) i).2.2
theorem QpT {sc own:List UInt8} {mk:Y16} {hs:List Hp} {msg:List UInt8} (h:Qmk hs sc own mk) (hm:msg.length≤450) (hfit:∀i,i<hs.length→Qbe (hs.getD i hp0).nod.priv.val (nb 9)=(hs.getD i hp0).nod.pub.val) (i:Nat) (hi:i<hs.length):
 unwE (hs.getD i hp0).nod.priv.val (repP sc own mk hs msg i)=0∧unwC (hs.getD i hp0).nod.priv.val (repP sc own mk hs msg i)=Qcu (lcG 4 mk) hs i∧
 unwP (hs.getD i hp0).nod.priv.val (repP sc own mk hs msg i)=(if i+1<hs.length then repP sc own mk hs msg (i+1) else QCC 768 0)∧
 unwB (hs.getD i hp0).nod.priv.val (repP sc own mk hs msg i)=(if i+1<hs.length then [] else repB sc own hs msg):=by
 obtain⟨_,h2,_,h4,h5⟩:=h
 exact QlN sc (lcG 4 mk) (repB sc own hs msg) hs (by
  rw[QrB,QfZ,h4,h5,if_pos (Qes h2 hm)]
  intro e he
  simpa using he) hfit i hi
theorem QtG {sc own:List UInt8} {hs:List Hp} {msg:List UInt8} (ho:own.length=32) (hm:msg.length≤450):decB own ((payG sc hs).map (·.val)) (repB sc own hs msg)=Qbr (bakP msg):=by
 have hl:=Qes (sc:=sc) (hs:=hs) ho hm
 have hu:=(QiD ho hm).2
 have h1:=(Quj (n:=hs.length) (st:=Qcv sc (pubH hs)) (body:=repB sc own hs msg) (ps:=(payG sc hs).map (·.val)) (by rw[QCF,Qdv]) (fun k hk=>by
  have:=QnZ sc hs k hk
  rw[QCK,QCJ (by rw[Qdv];exact hk)]at this
  rw[QCK,QCY,QCJ (by rw[Qdv];exact hk)]
  exact this) (Qbj _ _) hl).1
 rw[decB,h1,repB,Qmn (Qbj _ _) hu _ (QCP _),QDL,unS]
 have h2:=(Qge (QiD ho hm).1).2.2
 rw[show rsS.reverse=rsO by decide]at h2
 exact h2
theorem QrR {msg:List UInt8} (hm:msg.length≤450):parE (Qbr (bakP msg))=0∧parP (Qbr (bakP msg))=bakP msg:=QmL (bakP msg) (QnM hm).1
theorem QuW (mk:Y16) (hs:List Hp) (i:Nat) (h:i+1=hs.length):(Qcu (lcG 4 mk) hs i).kd=4∧(Qcu (lcG 4 mk) hs i).ma=mk:=by
 rw[QhH 4 mk hs i h]
 exact⟨rfl,rfl⟩
theorem Qyd (mk:Y16) (hs:List Hp) (i:Nat) (h:i+1<hs.length):(Qcu (lcG 4 mk) hs i).kd=1:=by
 rw[QjH 4 mk hs i h]
section
variable {P:Program} {ops:Array Oper} {rest:List Oper} {o:Oper} {a:Act} {w:World} {Q:Exit→Act→World→Prop} {α:Type} {F:α→List Value} {sz:Nat} {d:α}
theorem Qe1 (hF:∀x,(F x).length=sz) (h0:0<sz) (hgd:o.guard=none) (s x:Operand) (t:TypeId) (ho:o.op= .call { callee:=.builtin .append,args:= #[s,x],argTypes:= #[t,t] })
 (e:TypeId) (z:Value) (bytes:Nat) (ht:P.underlying t=some (.slice e)) (hinfo:(P.info? e).map (fun i=>(i.zero,i.size,i.bytes))=some (some z,sz,bytes)) (hzs:z.cells.size=sz) (g:Nat)
 (A:Option Addr) (m c:Nat) (xs:List α) (hr:RdF F sz d w A m xs) (hs:a.eval s= .slice (some ⟨g,0,none⟩) 0 0) (hx:a.eval x= .slice A m c) (hsz:m*bytes≤140737488355328) (hby:0<bytes)
 (h:∀A' c' w',RdF F sz d w' A' m xs→(0<m→∀b q,A'=some (⟨b,q,none⟩:Addr)→w.heap.size≤b)→Later w w'→wpList P ops Q rest (a.put o.dst (.slice A' m c')) w'):wpList P ops Q (o :: rest) a w:=by
 obtain⟨i,hi,hz,hsize,hbytes⟩:=info_parts hinfo
 have hm:m≤140737488355328:=QDm (QDO _ hby) hsz
 refine wpList_plain hgd fun K hK=>?_
 rcases Nat.eq_zero_or_pos m with hm0|hm0
 ·subst hm0
  have hrun:(Builtin.append_ #[t,t] o.type #[.slice (some ⟨g,0,none⟩) 0 0,.slice A 0 c]).run P w= .ok (.slice (some ⟨g,0,none⟩) 0 0) w:=by
   cases A<;>simp[Builtin.append_,run_underlying ht,sizeOf,typeInfo,hi,Builtin.lenOf,Builtin.firstCells,loadCells,loadCellsFrom,storeCells]
  unfold Oper.wp execOp
  simp only[ho,resolve,invoke,builtin,Sem.run_bind,Sem.run_pure,Result.andThen_ok,QCT,QC9,QC3,hs,hx,hrun]
  exact hK _ _ (h _ _ _ ⟨hr.1,fun h=>absurd h (by omega)⟩ (fun h=>absurd h (by omega)) (Later.refl w))
 ·obtain⟨b,o2,rfl,_,_⟩:=hr.2 hm0
  have hlen:(xs.flatMap F).length=m*sz:=by rw[Qbk hF,hr.1]
  have hrun:=run_append_grow (P:=P) w t o.type e i z ht hi hz ⟨g,0,none⟩ 0 0 [] (by simp) (by simp) ⟨b,o2,none⟩ m c (xs.flatMap F) (by rw[hsize,hlen]) (hr.cells hF h0) (by omega) (by omega) (growslice_fits (by omega) (by rw[hbytes,QC4];exact hsz))
  have hge:=grownCap_ge w (0+m) 0 e
  have hcm:grownCap w (0+m) 0 e≤maxLen:=grownCap_le_maxLen w (0+m) 0 e (by unfold maxLen;omega)
  unfold Oper.wp execOp
  simp only[ho,resolve,invoke,builtin,Sem.run_bind,Sem.run_pure,Result.andThen_ok,QCT,QC9,QC3,hs,hx,hrun]
  generalize grownCap w (0+m) 0 e=cp at *
  rw[QC4]at *
  have hown:(w.drew.alloc (.cells (#[]++(xs.flatMap F).toArray++Builtin.zeroCells z.cells (cp-m)) e)).ownsRow w.heap.size e sz (.slice (some ⟨w.heap.size,0,none⟩) m cp) m (xs.flatMap F):=by
   refine⟨hlen,.inr ⟨w.heap.size,_,_,rfl,QCP _,heap_alloc_new w.drew _,hge,hcm,?_,?_⟩⟩
   ·simp only[Array.size_append,List.size_toArray,size_zeroCells,hzs,hlen]
    rw[Nat.sub_mul,List.length_nil]
    have:=Nat.mul_le_mul_right sz hge
    omega
   ·simp only[Array.toList_append,←hlen]
    rw[QCH,List.take_left]
  exact hK _ _ (h _ _ _ (Qmo hF hown hr.1) (fun _ b q e=>by cases e;exact QCP _) ((Qab w).trans (Qaa w.drew _)))
end
theorem Qts {α:Type} {F:α→List Value} {sz:Nat} {d:α} {w w':World} {A:Option Addr} {n g:Nat} {xs:List α} (h:RdF F sz d w A n xs) (o:Only g w w') (hne:0<n→∀b q,A=some (⟨b,q,none⟩:Addr)→b≠g):RdF F sz d w' A n xs:=by
 refine⟨h.1,fun h0=>?_⟩
 obtain⟨b,q,hA,hb,hc⟩:=h.2 h0
 exact⟨b,q,hA,QCX hb o.size,fun j i v hj hv=>(World.cell?_of_block (a:=⟨b,q+j*sz+i,none⟩) (o.block b hb (fun e=>hne h0 b q hA (by injection e)))).trans (hc j i v hj hv)⟩
set_option maxRecDepth 100000 in
set_option maxHeartbeats 4000000 in
theorem Qsm (A:Option Addr) (n c:Nat) (hs:List Hp) (w:World) (hh:RdH w A n hs) (hnc:n≤c):
 Calls Tryz.prog 7 #[.slice A n c,.int .i64 4] w fun e w'=>∃A' c',e= .returned (.slice A' (min n 4) c')∧RdH w' A' (min n 4) (hs.take 4)∧(0<min n 4→∀b q,A'=some (⟨b,q,none⟩:Addr)→w.heap.size≤b)∧Later w w':=by
 have hl:=hh.1
 have hsz:∀t:TypeId,∀l:Array Value,w.heap.size≤(w.alloc (.cells l t)).heap.size:=fun t l=>(Qaa w (.cells l t)).size
 by_cases h:4<n
 ·have hm:min n 4=4:=by omega
  have hd:decide ((4:Int)<(n:Int))=true:=decide_eq_true (by omega)
  have hr:=Qr2 hh (m:=4) (by omega)
  rw[hm]
  go_enter Tryz.func7,Tryz.ntmps7
  go_wp2_with (first
   | (refine Qe1 (F:=HC) (d:=hp0) Qa4 (by omega) rfl _ _ _ rfl 59 _ 104 Tryz.underlying23 QvK rfl w.heap.size A 4 c _ (hr.later (Qaa _ _)) rfl rfl (by omega) (by omega) ?_;intro A1 c1 w1 h1 q1 l1)
   | fail)
  go_ret
  exact⟨A1,c1,rfl,h1,fun h b q e=>QDm (hsz _ _) (q1 h b q e),(Qaa _ _).trans l1⟩
 ·have hm:min n 4=n:=by omega
  have hd:decide ((4:Int)<(n:Int))=false:=decide_eq_false (by omega)
  rw[hm,QCQ (by omega)]
  go_enter Tryz.func7,Tryz.ntmps7
  go_wp2_with (first
   | (refine Qe1 (F:=HC) (d:=hp0) Qa4 (by omega) rfl _ _ _ rfl 59 _ 104 Tryz.underlying23 QvK rfl w.heap.size A n c _ (hh.later (Qaa _ _)) rfl rfl (by omega) (by omega) ?_;intro A1 c1 w1 h1 q1 l1)
   | fail)
  go_ret
  exact⟨A1,c1,rfl,h1,fun h b q e=>QDm (hsz _ _) (q1 h b q e),(Qaa _ _).trans l1⟩
theorem zcD:Tryz.zeroCells31.toList.length=785∧Tryz.zeroCells31.toList[784]?=some (.int .i64 0):=⟨by kernel_rfl,by kernel_rfl⟩
theorem QxD:(Tryz.prog.info? 28).map (fun i=>(i.zero,i.size))=some (some (.agg st0.toArray),49):=by kernel_rfl
theorem Qky:(Tryz.prog.info? 64).map (·.size)=some 20:=by kernel_rfl
theorem QBt (c:Cmd):∀(j:Nat) (u:Value),(c.ma.val.map W8)[j]?=some u→(CC c)[4+j]?=some u:=fun j u h=>by
 rw[←Qrk,QDE]at h
 exact h
theorem Qr9:Tryz.prog.built 24 []=some (Qa3.val.map W8).toArray:=by kernel_rfl
theorem QqO (h:List UInt8) (fi:UInt64) (ky:List UInt8) (hh:h.length=288):((BkC h fi ky).drop 0).take 288=h.map W8:=by
 rw[BkC,QD7,QDx (by rw[QCF,hh])]
theorem Qrd (h:List UInt8) (fi:UInt64) (ky:List UInt8) (hh:h.length=288) (hk:ky.length=32):((BkC h fi ky).drop 289).take 32=ky.map W8:=by
 have e:BkC h fi ky=(h.map W8++[W64 fi])++ky.map W8:=by simp[BkC]
 rw[e,QDj (by rw[QCM,QCF,hh];rfl),QCQ (by rw[QCF,hk];omega)]
theorem Qzm:Tryz.prog.eqGuardType Tryz.prog.depth 42=false:=by kernel_rfl
@[go_sem high] theorem QyB (op:BinOp) (x y:Operand) (xs ys:Array Value) (w:World):(eqGuard op 42 x y (.agg xs) (.agg ys)).run Tryz.prog w= .ok () w:=run_eqGuard_agg w op _ x y xs ys Qzm
set_option maxRecDepth 100000 in
theorem Qqo (h:List UInt8) (fi:UInt64) (ky:List UInt8) (hh:h.length=288) (hk:ky.length=32) (w:World) {fs:Array Field} (hu:Tryz.prog.underlying 42=some (.struct fs)):
 (Op.eqFields 9999 (BkC h fi ky).toArray (BkC h fi ky).toArray fs.toList).run Tryz.prog w= .ok true w:=by
 rw[Tryz.underlying42]at hu
 cases hu
 rw[Qg4 (d:=9997) (k:=0) rfl Tryz.underlying39 (by kernel_rfl) Qb6 (by decide) rfl (QqO h fi ky hh) (QqO h fi ky hh) _ w (Qsx 9996 _ _ hh hh w Tryz.underlying39),
  Qgn (d:=9998) (k:=288) rfl Tryz.underlying40 (by decide) rfl (Qox fi ky hh) (Qox fi ky hh),QbH (d:=9997) (k:=289) rfl (by decide) rfl (Qrd h fi ky hh hk) (Qrd h fi ky hh hk) hk hk,QcH]
 simp
theorem QpE (h:List UInt8) (fi:UInt64) (ky:List UInt8) (hh:h.length=288) (hk:ky.length=32) (w:World):(binOp .neq 42 (.agg (BkC h fi ky).toArray) (.agg (BkC h fi ky).toArray)).run Tryz.prog w= .ok (.bool false) w:=by
 rw[QgB Tryz.underlying42 (by kernel_rfl),Qqo h fi ky hh hk w Tryz.underlying42]
 rfl
theorem Qmt {sc own:List UInt8} {mk:Y16} {hs:List Hp} (h:Qmk hs sc own mk):(hdrG sc mk hs).length=288:=by
 obtain⟨_,_,_,h4,_⟩:=h
 obtain⟨_,_,h5,h6,_,_⟩:=QcX h4
 rw[hdrG,hdrA,QCM,QCM,Qc5 (Qbj _ _ _),Qby h5 h6 (fun _=>QcE _),tagA,Qbw]
set_option maxRecDepth 100000 in
set_option maxHeartbeats 16000000 in
theorem Qiq (A M H:Option Addr) (nx cx nm cm n ch:Nat) (x msg:List UInt8) (hs0:List Hp) (w:World) (hx:RdB w A nx x) (hxc:nx≤cx) (hm0:RdB w M nm msg) (hh:RdH w H n hs0) (hnc:n≤ch):
 Calls Tryz.prog 3 #[.slice A nx cx,.slice M nm cm,.slice H n ch] w fun e w'=>e= .returned (.bool true)∧Later w w':=by
 obtain⟨d1,d2⟩:=zcD
 have B0:=QaW w 31 Tryz.zeroCells31.toList
 have hml:=hm0.len
 have hbm:=hid Qr9
 have HZ:=hid zcP
 have HZp:=hid zcPe
 have hAn:=hid (fun g (l:List Value) (h:l[784]?=some (.int .i64 0)) mk A n c w hb=>QmA g l h mk A n c w hb)
 have hFw:=hid (fun A n c w h1 h2=>Qsm A n c hs0 w h1 h2)
 obtain⟨m,hm⟩:∃m,min n 4=m:=⟨_,rfl⟩
 obtain⟨hs,hhs⟩:∃hs,hs0.take 4=hs:=⟨_,rfl⟩
 have hm4:m≤4:=by omega
 have hHo:=hid (fun A2 c2 w h=>Qum A2 m c2 hs w h (by omega))
 have hMk:=hid (fun H2 h2 w h1 hh2=>Qry A H2 nx cx m h2 x hs w h1 hxc hh2 (by omega))
 have hMa:=hid (fun A2 c2 w h=>Qpr A2 m c2 hs w h (by omega))
 have hma:=hid (fun h=>QsV (hs:=hs) h)
 replace hhs:=hid hhs
 replace hm:=hid hm
 go_enter Tryz.func3,Tryz.ntmps3
 go_wp2_with (first
  | (refine go_b rfl ?_;refine Qaj ?hw 24 _ rfl (Qa3.val.map W8) (by simp only[QCT,QC3];exact hbm.out) ?_;(case hw=>rfl))
  | fail)
 (refine (hAn.out w.heap.size Tryz.zeroCells31.toList d2 Qa3 none 0 0 _ (B0.nth 0 rfl)).mono ?_);rintro e w1 ⟨rfl,j1⟩
 have B1:Bag w w1 [(w.heap.size,31,Tryz.zeroCells31.toList)]:=B0.later j1
 clear B0 hbm j1
 generalize Tryz.zeroCells31.toList=Dl at *
 go_wp2_with fail
 (refine (hFw.out H n ch _ (hh.later B1.lat) hnc).mono ?_)
 rw[hm.out,hhs.out]
 rintro e w2 ⟨A2,c2,rfl,r2,f2,j2⟩
 have B2:=B1.later j2
 have hlt1:=(B1.nth 0 rfl).lt
 have hne2:0<m→∀b q,A2=some (⟨b,q,none⟩:Addr)→b≠w.heap.size:=fun h b q e=>by have:=f2 h b q e;omega
 replace hne2:=hid hne2
 clear f2 hlt1 j2 hFw hh hm hhs B1
 by_cases h450:450<nm
 ·have g1:decide ((450:Int)<(nm:Int))=true:=decide_eq_true (by omega)
  have g2:decide (450<nm)=true:=decide_eq_true h450
  go_wp2_with fail
  go_ret
  exact⟨rfl,B2.lat⟩
 have g1:decide ((450:Int)<(nm:Int))=false:=decide_eq_false (by omega)
 have g2:decide (450<nm)=false:=decide_eq_false h450
 have hm450:msg.length≤450:=by omega
 clear h450
 go_wp2_with fail
 (refine (hMa.out _ _ _ r2).mono ?_);rintro e w3 ⟨rfl,j3⟩
 have B3:=B2.later j3
 have r3:=r2.later j3
 clear hMa B2 r2 j3
 cases hM:Qgx hs
 ·go_wp2_with fail
  go_ret
  exact⟨rfl,B3.lat⟩
 have hfit:=hid (hma.out hM)
 clear hma hM
 go_wp2_with fail
 (refine (hHo.out _ _ _ r3).mono ?_);rintro e w4 ⟨A4,c4,rfl,r4,j4⟩
 have B4:=B3.later j4
 go_wp2_with fail
 (refine (hMk.out _ _ _ (hx.later B4.lat) r4).mono ?_);rintro e w5 ⟨j5,hor⟩
 have B5:=B4.later j5
 have r5:=r3.later (j4.trans j5)
 clear hHo hMk hx r4 r3 B3 B4 j4 j5
 have hzb:Tryz.zeroCells42.toList=bk0:=zcBk
 have hK0:Hid (bk0.length=321):=hid QjK
 have hS0:=hid zc49
 have C7:Bag w ((w5.alloc (.cells Tryz.zeroCells42 42)).alloc (.cells st0.toArray 28)) [(w5.heap.size+1,28,st0),(w5.heap.size,42,bk0),(w.heap.size,31,Dl)]:=by
  have h1:=B5.fresh (k:=w5.heap.size) (Qaa _ (.cells Tryz.zeroCells42 42)) (QCP _) ((Blk.new w5 42 Tryz.zeroCells42.toList).cast hzb)
  have s1:(w5.alloc (.cells Tryz.zeroCells42 42)).heap.size=w5.heap.size+1:=by simp only[World.alloc,QEZ]
  exact h1.fresh (Qaa _ (.cells st0.toArray 28)) (QE1 s1) (Blk.new' _ 28 st0 s1)
 have l57:Later w5 ((w5.alloc (.cells Tryz.zeroCells42 42)).alloc (.cells st0.toArray 28)):=(Qaa _ _).trans (Qaa _ _)
 rcases hor with ⟨E,hE,rfl⟩|⟨sc,own,mk,AP,cp,hok,rfl,rP⟩
 ·have hne:((E:Int) != 0)=true:=bne_iff_ne.2 (by omega)
  have oK:∀u∈bk0,u.oneCell'=true:=QfW _ _ _
  have oS:∀u∈st0,u.oneCell'=true:=Qe5 _ _ rfl
  go_wp2_with (first
   | (refine QaZ rfl ?_;refine Qaf rfl rfl _ _ _ rfl w5.heap.size 0 _ _ bk0 (C7.nth 1 rfl) rfl rfl (by rw[hK0.out];exact Qbb) (by omega) oK ?_;intro wa hba hoa
      rw[Qak _ _ rfl]at hba
      have Da:=C7.write 1 rfl hoa hba)
   | (refine QaZ rfl ?_;refine Qaf rfl rfl _ _ _ rfl (w5.heap.size+1) 0 _ _ st0 (Da.nth 0 rfl) rfl rfl (by rw[hS0.out];exact QbB) (by omega) oS ?_;intro wb hbb hob
      rw[Qak _ _ rfl]at hbb
      have Db:=Da.write 0 rfl hob hbb)
   | fail)
  go_ret
  exact⟨rfl,Db.lat⟩
 have hHl:=Qmt hok
 have ho32:own.length=32:=hok.2.1
 have hid0:(hs.getD 0 hp0).nod.id≠0:=hok.2.2.1
 obtain⟨_,_,hm1,_,_,_⟩:=QcX hok.2.2.2.1
 rw[r5.1]at hm1
 have hRz:=hid (Qt4 (sc:=sc) (mk:=mk) (hs:=hs) ho32 hm450)
 have hRl:=hid (fun i=>QwH hok hm450 i)
 have hRu:=hid (fun i hi=>QpT hok hm450 hfit.out i hi)
 have hRh:=hid (QtG (sc:=sc) (hs:=hs) (own:=own) (msg:=msg) ho32 hm450)
 have hBl:=hid (Qes (sc:=sc) (hs:=hs) (own:=own) (msg:=msg) ho32 hm450)
 have hRf:=hid (QrR hm450)
 have hPl:(payG sc hs).length=m:=by rw[Qdv,r5.1]
 have hBy:=hid (fun w=>Qps (hdrG sc mk hs) hHl (hs.getD 0 hp0).nod.id own ho32 w)
 have hPa:=hid (fun A c w h1 h2=>Qpe (hdrG sc mk hs) hHl (hs.getD 0 hp0).nod.id hid0 own ho32 A c w h1 h2)
 have hUs:=hid (fun w h1=>Qvk (hdrG sc mk hs) hHl (hs.getD 0 hp0).nod.id own ho32 M nm cm msg w h1 (by omega))
 have hNq:∀W,(binOp .neq 42 (.agg (BkC (hdrG sc mk hs) (hs.getD 0 hp0).nod.id own).toArray) (.agg (BkC (hdrG sc mk hs) (hs.getD 0 hp0).nod.id own).toArray)).run Tryz.prog W= .ok (.bool false) W:=fun W=>QpE _ _ _ hHl ho32 W
 have hKl:=hid (Qch (hs.getD 0 hp0).nod.id hHl ho32)
 have hKo:∀u∈BkC (hdrG sc mk hs) (hs.getD 0 hp0).nod.id own,u.oneCell'=true:=QfW _ _ _
 have hK8:(BkC (hdrG sc mk hs) (hs.getD 0 hp0).nod.id own)[288]?=some (W64 (hs.getD 0 hp0).nod.id):=Qox _ _ hHl
 have hSl:=hid (QcJ mk ho32 (.slice AP m cp))
 have hSo:∀u∈StC mk own (.slice AP m cp),u.oneCell'=true:=Qe5 _ _ rfl
 have hKe:=hid (fun b o c wk hb hP hbw hc=>QuB w.heap.size Dl d1 d2 mk own ho32 AP m cp (by omega) (by omega) (payG sc hs) b o c wk hb hP hbw hc)
 rw[hRz.out]at hUs
 clear hHl hid0 hRz d1 d2
 generalize BkC (hdrG sc mk hs) (hs.getD 0 hp0).nod.id own=KB at *
 generalize hST:StC mk own (.slice AP m cp)=ST at *
 clear hST
 generalize payG sc hs=PY at *
 go_wp2_with (first
  | (refine QaZ rfl ?_;refine Qaf rfl rfl _ _ _ rfl w5.heap.size 0 _ _ KB (C7.nth 1 rfl) rfl rfl (by rw[hKl.out];exact Qbb) (by rw[hKl.out,hK0.out];omega) hKo ?_;intro wa hba hoa
     rw[Qak _ _ (by rw[hKl.out,hK0.out])]at hba
     have Da:=C7.write 1 rfl hoa hba
     have la:=l57.only hoa (QCP _))
  | (refine QaZ rfl ?_;refine Qaf rfl rfl _ _ _ rfl (w5.heap.size+1) 0 _ _ ST (Da.nth 0 rfl) rfl rfl (by rw[hSl.out];exact QbB) (by rw[hSl.out,hS0.out];omega) hSo ?_;intro wb hbb hob
     rw[Qak _ _ (by rw[hSl.out,hS0.out])]at hbb
     have Db:=Da.write 0 rfl hob hbb
     have lb:=la.only hob (Nat.le_succ _))
  | (refine go_l rfl ?_;refine Qan ?hw 42 _ rfl w5.heap.size 0 KB (fun j v hv=>by rw[QC4];exact (Db.nth 1 rfl).cellD j hv) rfl _ Tryz.underlying42 rfl (by rw[hKl.out];exact Qbb) ?_;(case hw=>rfl))
  | fail)
 have C8:Bag w wb [(w5.heap.size+1,28,ST),(w5.heap.size,42,KB),(w.heap.size,31,Dl)]:=Db
 have r8:=r5.later lb
 have rP8:=rP.later lb
 clear C7 Da Db la lb hba hoa hbb hob r5 rP l57 B5
 (refine (hBy.out _).mono ?_);rintro e w9 ⟨A9,c9,rfl,o9,j9⟩
 have C9:=C8.later j9
 go_wp2_with fail
 (refine (hPa.out _ _ _ (OwnB.rd o9) (OwnB.cap o9)).mono ?_);rintro e w10 ⟨rfl,j10⟩
 have C10:=C9.later j10
 have r10:=r8.later (j9.trans j10)
 have rP10:=rP8.later (j9.trans j10)
 clear C8 C9 r8 rP8 o9 j9 j10 hBy hPa
 generalize w5.heap.size=g5 at *
 go_wp2_with (first
  | (refine QaZ rfl ?_;refine Qaf rfl rfl _ _ _ rfl w10.heap.size 0 _ _ KB ((Blk.new w10 _ Tryz.zeroCells42.toList).cast hzb) rfl rfl (by rw[hKl.out];exact Qbb) (by rw[hKl.out,hK0.out];omega) hKo ?_;intro wa hba hoa
     rw[Qak _ _ (by rw[hKl.out,hK0.out])]at hba
     have C11:=C10.push (Qaa _ _) (QCP _) hoa hba
     have l11:Later w10 wa:=(Qaa w10 _).only hoa (QCP _))
  | (refine go_l rfl ?_;refine Qan ?hw 42 _ rfl w10.heap.size 0 KB (fun j v hv=>by rw[QC4];exact (C11.nth 0 rfl).cellD j hv) rfl _ Tryz.underlying42 rfl (by rw[hKl.out];exact Qbb) ?_;(case hw=>rfl))
  | (refine go_l rfl ?_;refine Qan ?hw 42 _ rfl g5 0 KB (fun j v hv=>by rw[QC4];exact (C11.nth 2 rfl).cellD j hv) rfl _ Tryz.underlying42 rfl (by rw[hKl.out];exact Qbb) ?_;(case hw=>rfl))
  | (refine go_l rfl ?_;refine Qan ?hw 28 _ rfl (g5+1) 0 ST (fun j v hv=>by rw[QC4];exact (C11.nth 1 rfl).cellD j hv) rfl _ Tryz.underlying28 rfl (by rw[hSl.out];exact QbB) ?_;(case hw=>rfl))
  | (refine Qjt ?hw 87 _ rfl 28 49 (.agg st0.toArray) ST Tryz.underlying87 QxD (by omega) (by omega) hSl.out rfl ?_;(case hw=>rfl))
  | fail)
 have CL:=C11.fresh (Qaa wa (.cells ST.toArray 28)) (QCP _) (Blk.new wa 28 ST)
 have lL:=l11.trans (Qaa wa (.cells ST.toArray 28))
 (refine (hKe.out wa.heap.size 0 1 _ (CL.nth 4 rfl) (rP10.later lL) (CL.nth 0 rfl).lt (fun j v hv=>by rw[QC4];exact (CL.nth 0 rfl).cellD j hv)).mono ?_)
 rintro e w12 ⟨rfl,A12,c12,l12,hb12,hl12,h784,hS12,rP12,ho12⟩
 have C12:=CL.write 4 rfl ho12 hb12
 have r12:=Qts (r10.later lL) ho12 hne2.out
 clear C10 C11 CL lL l11 hb12 ho12 rP10 r10 hba hoa hKe
 go_wp2_with (first
  | (refine go_l rfl ?_;refine Qan ?hw 42 _ rfl w10.heap.size 0 KB (fun j v hv=>by rw[QC4];exact (C12.nth 1 rfl).cellD j hv) rfl _ Tryz.underlying42 rfl (by rw[hKl.out];exact Qbb) ?_;(case hw=>rfl))
  | fail)
 (refine (hUs.out _ (hm0.later C12.lat)).mono ?_);rintro e w13 ⟨rfl,j13⟩
 have C13:Bag w w13 [(wa.heap.size,28,ST),(w10.heap.size,42,KB),(g5+1,28,ST),(g5,42,KB),(w.heap.size,31,l12)]:=C12.later j13
 clear C12 hUs
 have z768l:(QCC 768 (0:UInt8)).length=768:=QCS
 go_wp2_with (first
  | (refine QaZ rfl ?_;refine QhB rfl rfl _ _ rfl ((Blk.new w13 _ Tryz.zeroCells53.toList).cast HZ.out) rfl rfl (hRl.out 0) (by rw[QCF,z768l]) ?_;intro w14 hb14 ho14
     have C14:=(C13.push (Qaa _ _) (QCP _) ho14 hb14).drew
     have l14:Later w12 w14.drew:=(j13.trans ((Qaa w13 _).only ho14 (QCP _))).trans (Qab w14))
  | fail)
 have hP0:=hRl.out 0
 obtain⟨bH,oH,hAH,hbH,hcH⟩:=r12.at_ (k:=0) (by omega)
 have hcI:=hid (fun (w':World) (l:Later w12 w')=>show w'.cell? ⟨bH,oH+1,none⟩=some (W64 (hs.getD 0 hp0).nod.id) from by
  have:=hcH 1 _ (Qq1 _)
  rw[QEA,QD8]at this
  exact (l.below.cell (p:=⟨bH,oH+1,none⟩) hbH).trans this)
 have hne0:((hs.getD 0 hp0).nod.id != (hs.getD 0 hp0).nod.id)=false:=bne_self_eq_false _
 generalize hs.getD 0 hp0=Z0 at *
 subst hAH
 have hgp:w12.heap.size≤w13.heap.size:=j13.size
 clear hb14 ho14 C13 j13
 refine Qag [([0,1,2,3],4)] [5,6,7,8,9,10,11,12,13,14,15,16,17] [] (by as_aux_lemma=>kernel_rfl) (by as_aux_lemma=>kernel_rfl) (by intro _ _ d _ _ h;cases d<;>exact h) ?_
 simp only[Qah,pick,QCD,QCE,QCG,QCI,QCH]
 repeat (first|go_big_quiet_skip|(go_big_quiet_want;(refine QfK 0 768 _ rfl (C14.nth 0 rfl) rfl Tryz.underlying53 rfl QgN (QgA _ _ hP0) hP0 ?_);simp only[Act.put,QCL,QCO,QCN];go_big_quiet_on)|(go_big_quiet_step (fail)))
 refine wpQuiet_nil ?_
 go_wp2_with fail
 (refine (Qpn _ hP0 _).mono ?_);rintro e w15 ⟨A15,c15,rfl,_,j15⟩
 have C15:=C14.later j15
 have l15:=l14.trans j15
 have i288:=(C15.nth 2 rfl).cellD 288 hK8
 have i0:=hcI.out _ l15
 have lH15:=QCX hbH l15.size
 have lK15:=(C15.nth 2 rfl).lt
 go_wp2_with fail
 try refine⟨by first|assumption|exact Qab _|exact Qaa _ _|exact Later.refl _,?_⟩
 try simp only[Qah,pick,QCD,QCE,QCG,QCI,QCH]
 repeat (go_big_quiet_step (fail))
 refine wpQuiet_nil ?_
 go_wp2_with fail
 have BL:=C15.sub (ls':=[(w13.heap.size,53,(repP sc own mk hs msg 0).map W8),(w.heap.size,31,l12)]) (List.Sublist.cons_cons _ (.cons _ (.cons _ (.cons _ (.cons _ (List.Sublist.refl _))))))
 have hsm:hs.length=m:=r12.1
 have hA1:Hid (∀ (A':Option Addr) (c':Nat) (wk:World),Blk wk w.heap.size 31 l12→RdF FY 32 QbY wk A12 m PY→RdB wk A' 480 (repB sc own hs msg)→480≤c'→Calls Tryz.prog 6 #[.pointer (some ⟨w.heap.size,0,none⟩),.agg (mk.val.map W8).toArray,.slice A' 480 c'] wk fun e w'=>∃A' c' l',e= .returned (.tuple #[.slice A' nm c',.int .i64 0])∧OwnB w' wk.heap.size A' nm c' msg∧Blk w' w.heap.size 31 l'∧l'[784]?=some (.int .i64 0)∧Only w.heap.size wk w'):=hid (fun A' c' wk hb hP hr hc=>by
  have h:=Qqe w.heap.size l12 hl12 h784 mk own (repB sc own hs msg) ho32 A12 m c12 (by omega) PY A' c' wk hb hS12 hP hr hc (by rw[hRh.out];exact hRf.out.1) (by rw[hRh.out,hRf.out.2];rfl)
  rw[hRh.out,hRf.out.2]at h
  rw[←hml]
  exact h)
 have hmid:=hid (fun i h=>Qyd mk hs i h)
 have hlst:=hid (fun i h=>QuW mk hs i h)
 rw[hsm]at hRu hmid hlst
 have hzl:(PC cmd0 z768 nil8).length=789:=QbG _ QaJ _
 have hzz:Tryz.zeroCells59.toList.length=68:=by kernel_rfl
 replace hzz:=hid hzz
 clear C14 C15 l14 i288 i0 lH15 lK15 hne0 hcI hP0 hRf hRh hS12 hl12 h784 hfit hNq hKo hK8 hSo j15 hKl hSl hok
 generalize w13.heap.size=gp at *
 generalize repB sc own hs msg=RB at *
 replace rP12:=hid rP12
 go_loopw [94] (fun i wr=>∃k:Nat,k<m∧i= .int .i64 k∧Bag w wr [(gp,53,(repP sc own mk hs msg k).map W8),(w.heap.size,31,l12)]∧Later w12 wr) (fun i _=>m-(intOf i).toNat)
 case atStart=>exact⟨0,by omega,rfl,BL,l15⟩
 case round=>
  clear BL l15
  obtain⟨k,hk,rfl,B,L⟩:=hrel
  have hlt:(k:Int)<(m:Int):=by omega
  have hc:∀i v,(HC (hs.getD k hp0))[i]?=some v→wr.cell? ⟨bH,oH+k*68+i,none⟩=some v:=by
   obtain⟨b,o,hA,_,hc⟩:=(r12.later L).at_ hk
   cases hA
   exact hc
  have hbb:bH<wr.heap.size:=QCX hbH L.size
  obtain⟨u1,u2,u3,u4⟩:=hRu.out k (by omega)
  have hyl:=hRl.out k
  have hyn:=hRl.out (k+1)
  have hPV:(if k+1<m then repP sc own mk hs msg (k+1) else QCC 768 0).length=768:=by
   split
   ·exact hyn
   ·exact QCS
  have hU:=hid (fun A2 c2 w h=>Qpq A2 32 c2 (hs.getD k hp0).nod.priv.val (repP sc own mk hs msg k) w h (by omega) hyl)
  rw[u1,u2,u3,u4]at hU
  have vP:=hid (fun h:k+1<m=>show (if k+1<m then repP sc own mk hs msg (k+1) else QCC 768 0)=repP sc own mk hs msg (k+1) from if_pos h)
  have vB:=hid (fun h:k+1=m=>show (if k+1<m then [] else RB)=RB from if_neg (by omega))
  have hmk:=hmid.out k
  have hlk:=hlst.out k
  clear u1 u2 u3 u4
  generalize (if k+1<m then repP sc own mk hs msg (k+1) else QCC 768 0)=PV at *
  generalize (if k+1<m then [] else RB)=BV at *
  generalize Qcu (lcG 4 mk) hs k=XC at *
  generalize hs.getD k hp0=z at *
  generalize repP sc own mk hs msg k=P at *
  generalize hPN:repP sc own mk hs msg (k+1)=PN at *
  replace hPN:=hid hPN
  obtain⟨lb,hb1,hb2,hb3⟩:∃lb:Bool,((k:Int)+1==(m:Int))=lb∧(XC.kd==1)= !lb∧Hid ((lb=true∧k+1=m)∨(lb=false∧k+1<m)):=by
   by_cases hl':k+1=m
   ·exact⟨true,by simp;omega,by rw[(hlk hl').1];rfl,hid (.inl ⟨rfl,hl'⟩)⟩
   ·exact⟨false,by simp;omega,by rw[hmk (by omega)];rfl,hid (.inr ⟨rfl,by omega⟩)⟩
  replace hlk:=hid hlk
  clear hmk
  replace hc:=hid hc
  go_wp2_with (first
   | (refine go_l rfl ?_;refine Qan rfl 59 _ rfl bH (oH+k*68) (HC z) hc.out rfl _ Tryz.underlying59 rfl (by rw[Qa4];exact QgM) ?_)
   | (refine QaZ rfl ?_;refine QaC rfl rfl 59 _ _ rfl wr.heap.size _ _ (HC z) (Blk.new wr _ Tryz.zeroCells59.toList) rfl rfl 68 QgM (Qa4 _) hzz.out (QoI _) ?_;intro w3 hb3' ho3
      have C3:=(B.push (Qaa _ _) (QCP _) ho3 hb3').drew
      have l3:Later w12 w3.drew:=(L.trans ((Qaa wr _).only ho3 (QCP _))).trans (Qab w3))
   | fail)
  clear hb3' ho3 B L
  have hl9:=(C3.nth 0 rfl).lt
  have y9:=(C3.nth 1 rfl).lt
  refine Qay [0,1,2,3] [([],1,4),([5,6,7],2,8)] [] [9,10] [8] (fun _=>(fun g=>.pointer (some ⟨g,0,none⟩),.cells Tryz.zeroCells66 66)) (by as_aux_lemma=>kernel_rfl) (by as_aux_lemma=>kernel_rfl) (by intro _ _ d _ _ h;cases d<;>exact h) (by intro _ _ d _ _ h;cases d<;>exact h) ?_
  simp only[pick,QCD,QCE,QCG,QCI,QCH]
  repeat (first|go_big_quiet_skip|(go_big_quiet_want;(refine QfK 0 768 _ rfl (C3.nth 1 rfl) rfl Tryz.underlying53 rfl QgN (QgA _ _ hyl) hyl ?_);simp only[Act.put,QCL,QCO,QCN];go_big_quiet_on)|(go_big_quiet_step (fail)))
  refine wpQuiet_nil ?_
  refine⟨?mkk,?_⟩
  case mkk=>
   refine⟨fun o ho=>?_,trivial⟩
   simp only[QCD,QCE,Option.some.injEq]at ho
   subst ho
   exact QjT rfl rfl
  simp only[Qbi,pick,QCD,QCE,QCG,QCI,QCH]
  refine wpQuiet_nil ?_
  intro k1 i1
  go_wp2_with fail
  (refine (hU.out _ _ _ (Qdf hl9 (fun j v hv=>(C3.nth 0 rfl).cellD _ (QjF z (Qsy _ hv))) z.nod.priv.2 |>.later i1)).mono ?_);rintro e k2 ⟨A9,c9,rfl,oB,i2⟩
  go_wp2_with fail
  try refine⟨by first|assumption|exact Qab _|exact Qaa _ _|exact Later.refl _,?_⟩
  try simp only[Qah,pick,QCD,QCE,QCG,QCI,QCH]
  repeat (go_big_quiet_step (fail))
  refine wpQuiet_nil ?_
  intro k5 gk i5 hgk _ hbk
  refine wpQuiet_nil ?_
  intro k6 i6
  simp only[QD1,Act.put,QCL,QCO,QCN]
  have kk:=((i1.trans i2).trans i5).trans i6
  have hK6:Blk k6 gk 66 (PC cmd0 z768 nil8):=(Blk.later (show Blk k5 gk _ Tryz.zeroCells66.toList from hbk) i6).cast HZp.out
  have oB6:=Qa5 oB (i5.trans i6)
  refine Qeo rfl rfl _ _ rfl hK6 rfl rfl hPV rfl hzl ?_
  intro k7 hb8 ho8
  have CA:=C3.push kk (by have:=hgk;simpa using this) ho8 hb8
  have lA:=l3.trans (kk.only ho8 (by have:=hgk;simpa using this))
  have oA:=QdA oB6 hK6 (by decide) ho8
  clear hK6 kk i1 i2 i5 i6 hbk C3 oB6 hb8 ho8 l3 oB hl9 y9 hU
  go_wp2_with (first
   | (refine go_l rfl ?_;refine Qan ?hw 64 _ rfl gk 0 (CC XC) (fun j v hv=>(CA.nth 0 rfl).cellD _ (Qil _ _ _ j v hv)) rfl _ Tryz.underlying64 rfl (by rw[Qar];exact Qky) ?_;(case hw=>rfl))
   | fail)
  (with_reducible refine (QhA XC _).mono ?_);rintro e v1 ⟨rfl,i1⟩
  rw[hb2]
  have CB:=CA.later i1
  have lB:=lA.trans i1
  have oB:=Qa5 oA i1
  clear CA lA oA i1
  rcases hb3.out with ⟨rfl,hjk⟩|⟨rfl,hjk⟩
  ·obtain⟨kd4,ma4⟩:=hlk.out hjk
   have hk4:(XC.kd==4)=true:=by rw[kd4];rfl
   obtain rfl:BV=RB:=vB.out hjk
   have hR:=hBl.out
   clear hb3 kd4 hlk vP vB hPN
   go_wp2_with (first
    | (refine go_l rfl ?_;refine Qan ?hw 64 _ rfl gk 0 (CC XC) (fun j v hv=>(CB.nth 0 rfl).cellD _ (Qil _ _ _ j v hv)) rfl _ Tryz.underlying64 rfl (by rw[Qar];exact Qky) ?_;(case hw=>rfl))
    | fail)
   (with_reducible refine (QhA XC _).mono ?_);rintro e v2 ⟨rfl,i2⟩
   rw[hb2]
   rw[hR]at CB oB
   have CD:=CB.later i2
   have lD:=lB.trans i2
   have oD:=Qa5 oB i2
   clear CB lB oB i2 hb2
   have cB:=(CD.nth 0 rfl).cellD 788 (Qr1 XC hPV _)
   have hmk:∀(W:World) (l:Value),Blk W gk 66 (PC XC PV l)→∀j v,(mk.val.map W8)[j]?=some v→W.cell? ⟨gk,4+j,none⟩=some v:=fun W l hb j v hv=>by
    rw[←ma4]at hv
    have h1:=Qil XC PV l (4+j) v (QBt XC j v hv)
    rw[QC4]at h1
    exact hb.cellD _ h1
   have cK:=(CD.nth 0 rfl).cellD 0 (by have:=Qil XC PV (.slice A9 480 c9) 0 _ rfl;rwa [QC4]at this)
   have y0:=(CD.nth 0 rfl).lt
   go_wp2_with (first
    | (refine go_l rfl ?_;refine Qan ?hw 24 _ rfl gk 4 (mk.val.map W8) (hmk _ _ (CD.nth 0 rfl)) rfl _ Tryz.underlying24 rfl (by rw[QCF,mk.2];exact Qfg) ?_;(case hw=>rfl))
    | fail)
   (refine (hA1.out _ _ _ (CD.nth 3 rfl) (rP12.out.later lD) (Qid oD) (Qnh oD)).mono ?_);rintro e v3 ⟨A5,c5,l5,rfl,o5,hb5,h85,on5⟩
   have CE:=CD.write 3 rfl on5 hb5
   clear cB cK y0 CD oD lD hb5 on5
   have cB:=(CE.nth 0 rfl).cellD 788 (Qr1 XC hPV _)
   have y0:=(CE.nth 0 rfl).lt
   go_wp2_with (first
    | (refine go_l rfl ?_;refine Qan ?hw 24 _ rfl gk 4 (mk.val.map W8) (hmk _ _ (CE.nth 0 rfl)) rfl _ Tryz.underlying24 rfl (by rw[QCF,mk.2];exact Qfg) ?_;(case hw=>rfl))
    | fail)
   (refine (hAn.out w.heap.size l5 h85 mk _ _ _ _ (CE.nth 3 rfl)).mono ?_);rintro e v4 ⟨rfl,i4⟩
   have CF:=CE.later i4
   have o6:=Qa5 o5 i4
   clear cB y0 CE o5
   have cK:=(CF.nth 0 rfl).cellD 0 (by have:=Qil XC PV (.slice A9 480 c9) 0 _ rfl;rwa [QC4]at this)
   have y0:=(CF.nth 0 rfl).lt
   go_wp2_with fail
   (refine (QsW A5 M nm nm c5 cm msg msg _ (Qid o6) (hm0.later CF.lat)).mono ?_);rintro e v5 ⟨rfl,rfl⟩
   have dm:decide (msg=msg)=true:=decide_eq_true rfl
   rw[dm]
   go_wp2_with fail
   (refine (QlM w.heap.size 31 l5 0 _ (CF.nth 3 rfl) h85).mono ?_);rintro e v6 ⟨rfl,rfl⟩
   go_wp2_with fail
   go_ret
   exact⟨by simp,CF.lat⟩
  ·obtain rfl:PV=PN:=vP.out hjk
   clear hb3 hlk vP vB hA1 hAn hmid hlst
   go_wp2_with (first
    | (refine go_l rfl ?_;refine Qan ?hw 64 _ rfl gk 0 (CC XC) (fun j v hv=>(CB.nth 0 rfl).cellD _ (Qil _ _ _ j v hv)) rfl _ Tryz.underlying64 rfl (by rw[Qar];exact Qky) ?_;(case hw=>rfl))
    | fail)
   (with_reducible refine (QhA XC _).mono ?_);rintro e v2 ⟨rfl,i2⟩
   rw[hb2]
   have CD:=CB.later i2
   have lD:=lB.trans i2
   have lY:(P.map W8).length=768:=by rw[QCF,hyl]
   clear CB lB oB i2 hb2
   go_wp2_with (first
    | (refine go_l rfl ?_;refine Qan ?hw _ _ rfl gk 20 (PV.map W8) (fun j v hv=>(CD.nth 0 rfl).cellD _ (QyQ _ _ _ _ _ hv)) rfl _ Tryz.underlying53 rfl (by rw[QCF,hPV];exact QgN) ?_;(case hw=>rfl))
    | (refine QaZ rfl ?_;refine QhB rfl rfl _ _ rfl (CD.nth 2 rfl) rfl rfl hPV lY ?_;intro wb hbb' hob
       have D6:=CD.write 2 rfl hob hbb'
       have l6:=lD.only hob hgp)
    | fail)
   have D7:=D6.drop 2
   exact⟨⟨k+1,hjk,by go_num,by rw[hPN.out];exact D7,l6⟩,by simp[intOf];omega⟩
end Go.Proofs.YticcbmhcgmhohaaGreat
