/-
  Lemmas for the last text of this claim (part 15 of 20).
-/
import Derived.BigQuiet
import Derived.BigRegion
import Derived.ChangeOld
import Derived.Deep.RegionWith
import Derived.DeepKeys4
import Derived.JoinedCond
import Derived.LaidMore
import Derived.Laws.CopyOwn
import Derived.Laws.Externs
import Derived.Laws.IdiomStrings
import Derived.Laws.Tables
import Derived.Lib.AppendStr
import Derived.Lib.AppendZerosOnto
import Derived.Lib.Mul64
import Derived.Lib.SlBytesConst
import Derived.LoopN
import Derived.Maps.OwnSet
import Derived.OpenShut
import Derived.OrdersHeld
import Derived.ProofKit
import Derived.Shelf.Spec.BitsCarry
import Derived.ShutString
import Derived.Test.YtcbdgnlcknllnaaGreatProg
import Derived.Test.YtcbdgnlcknllnaaGreatRows
import Derived.WalkKit
import Derived.WalkLawsBesides
import Derived.WalkSpells
import Derived.Test.YtcbdgnlcknllnaaGreatPB
import Derived.Test.YtcbdgnlcknllnaaGreatPD
import Derived.Test.YtcbdgnlcknllnaaGreatPE
import Derived.Test.YtcbdgnlcknllnaaGreatPI
import Derived.Test.YtcbdgnlcknllnaaGreatPJ
import Derived.Test.YtcbdgnlcknllnaaGreatPK
import Derived.Test.YtcbdgnlcknllnaaGreatPN
open BitVec renaming toNat_shiftLeft → QG9
open List renaming replicate → QFu, getElem?_cons_succ → QFv, getElem?_cons_zero → QFw, cons_append → QFy, nil_append → QFz, length_map → QFA, getElem?_eq_getElem → QFB, getD_eq_getElem?_getD → QFC, setIfInBounds_toArray → QFD, length_append → QFF, set_cons_zero → QFG, set_cons_succ → QFH, map_toArray → QFI, take_of_length_le → QFJ, getElem?_append_right → QFK, append_assoc → QFL, length_replicate → QFM, getElem?_map → QFN, not_mem_nil → QFO, mem_cons → QFP, map_nil → QFR, map_cons → QFW, length_take → QFY, length_drop → QF0, take_succ_eq_append_getElem → QF5, take_append_drop → QF8, set_append_right → QF9, append_nil → QGb, length_set → QGd, drop_left' → QGe, mem_map → QGf, map_replicate → QGg, length_cons → QGo, take_append_of_le_length → QGt, take_left' → QGv, replicate_append_replicate → QGJ, drop_append_of_le_length → QGQ, getElem?_drop → QGR, drop_drop → QGY, map_take → QG1, drop_eq_nil_of_le → QHs, flatten_cons → QHu, replicate_succ → QHv, drop_append → QHI, drop_zero → QHM
open Nat renaming le_refl → QFE, lt_of_lt_of_le → QFV, zero_add → QFX, pow_succ → QGs, mul_comm → QGF, mul_assoc → QGO, add_zero → QG6, shiftLeft_eq → QHd
open Option renaming toList_some → QFx, getD_some → QHq
open UInt32 renaming ofNat → QF7, toNat_ofNat' → QHt, toNat_inj → QHH
open UInt64 renaming ofNat → QFZ, toNat_ofNat' → QF4, toNat_inj → QHi
namespace Go.Proofs.YtcbdgnlcknllnaaGreat
open Go.RowKit
open Go.BigFrame
def beN:List UInt8→Nat→Nat
 | [],n=>n
 | b :: r,n=>beN r (n*256+b.toNat)
theorem Qf4:∀(p q:List UInt8) (n:Nat),beN (p++q) n=beN q (beN p n)
 | [],_,_=>rfl
 | b :: r,q,n=>by rw[QFy,beN,Qf4 r q];rfl
theorem Qu3:∀(p:List UInt8) (n k:Nat),n<k→beN p n<k*256^p.length
 | [],n,k,h=>by simpa [beN] using h
 | b :: r,n,k,h=>by
   have hb:=b.toNat_lt
   have:=Qu3 r (n*256+b.toNat) (k*256) (by omega)
   rw[beN,QGo,QGs,QGF (256^_),←QGO]
   exact this
theorem Qm5 (bs:List UInt8) (k:Nat) (h:k<bs.length):bs.take (k+1)=bs.take k++[bs.getD k 0]:=by
 rw[QF5 h,QFC,QFB h,QHq]
theorem Qv1 (bs:List UInt8) (k:Nat) (h:k<bs.length):beN (bs.take (k+1)) 0=beN (bs.take k) 0*256+(bs.getD k 0).toNat:=by
 rw[Qm5 bs k h,Qf4]
 rfl
theorem QBF (x:Nat) (b:UInt8):Qj3 (QFZ x) 8 ||| b.toUInt64=QFZ (x*256+b.toNat):=by
 apply QHi.1
 have e1:(Qj3 (QFZ x) 8).toNat=(x%2^64*256)%2^64:=by
  show ((QFZ x).toBitVec <<< 8).toNat=_
  rw[QG9,QHd]
  rfl
 have hb:=b.toNat_lt
 rw[UInt64.toNat_or,e1,UInt8.toNat_toUInt64,QF4]
 have e2:(x%2^64*256)%2^64=(x%2^56) <<< 8:=by
  rw[QHd]
  omega
 rw[e2,←Nat.shiftLeft_add_eq_or_of_lt (by omega),QHd]
 omega
theorem QAy (x:Nat):(QFZ x).toUInt32=QF7 x:=by
 apply QHH.1
 rw[UInt64.toNat_toUInt32,QF4,QHt]
 show x%2^64%2^32=x%2^32
 omega
theorem QhG (q:List UInt8) (n:Nat) (h:q.length=n):xorB (QFu n 0) q=q:=by
 subst h
 induction q with
 | nil=>rfl
 | cons a q ih=>
   rw[QGo,QHv]
   show (0 ^^^ a) :: xorB (QFu q.length 0) q=_
   rw[ih,UInt8.zero_xor]
def Qdm (c:Cmd):Bool:=(c.kd==1)==(c.nx != 0)&&(c.kd==4||c.ma.val==QFu 16 0)
def cmdE (c:Cmd):Nat:=if c.kd<1∨4<c.kd then 1 else if Qdm c=false then 3 else if 1000000<c.dl then 11 else 0
def QgK (b:List UInt8):Cmd:=⟨b.getD 0 0,b.getD 1 0,QF7 (beN (subB b 2 4) 0),QFZ (beN (subB b 6 8) 0),⟨((b++QFu 32 0).drop 14).take 16,by simp⟩⟩
theorem Qj5 (b:List UInt8) (h:b.length=32):(QgK b).ma.val=subB b 14 16:=by
 show ((b++QFu 32 0).drop 14).take 16=_
 rw[QGQ (by omega),QGt (by rw[QF0];omega)]
 rfl
def decE (b:List UInt8):Nat:=if cmdE (QgK b)≠1∧(b.getD 30 0≠0∨b.getD 31 0≠0) then 3 else cmdE (QgK b)
def decC (b:List UInt8):Cmd:=if decE b=0 then QgK b else cmd0
set_option maxRecDepth 100000 in
theorem Qsm (k:Nat) (hk:1≤k) (h8:k≤8) (w:World):Calls Tryz.prog 91 #[.int .i64 2,.int .i64 (k:Int)] w fun e w'=>e= .returned (.bool true)∧Later w w':=by
 have h1:decide ((1:Int)≤(k:Int))=true:=decide_eq_true (by omega)
 have h2:decide ((k:Int)≤8)=true:=decide_eq_true (by omega)
 go_enter Tryz.func91,Tryz.ntmps91
 go_wp2
 go_ret
 exact⟨rfl,Later.refl w⟩
theorem QnU (bs:List UInt8) (o k:Nat) (h:o+k<bs.length):beN (subB bs o (k+1)) 0=beN (subB bs o k) 0*256+(bs.getD (o+k) 0).toNat:=by
 rw[subB,Qv1 _ _ (by rw[QF0];omega)]
 show _=beN ((bs.drop o).take k) 0*256+_
 congr 2
 rw[QFC,QFC,QGR]
set_option maxRecDepth 100000 in
set_option maxHeartbeats 4000000 in
theorem Qip (A:Option Addr) (n c o k:Nat) (bs:List UInt8) (w:World) (hb:RdB w A n bs) (hn:n≤140737488355328) (hk:1≤k) (h8:k≤8) (ho:o+k≤n):
 Calls Tryz.prog 62 #[.int .i64 2,.slice A n c,.int .i64 (o:Int),.int .i64 (k:Int)] w fun e w'=>e= .returned (.tuple #[W64 (QFZ (beN (subB bs o k) 0)),.int .i64 0])∧Later w w':=by
 have hbl:=hb.len
 have h1:decide ((n:Int)<(o:Int))=false:=decide_eq_false (by omega)
 have h2:decide ((n:Int)-(o:Int)<(k:Int))=false:=decide_eq_false (by omega)
 have h3:decide ((o:Int)<0)=false:=decide_eq_false (by omega)
 have hs:=hid (fun j=>QnU bs o j)
 have hr:=hid (fun j=>QBF (beN (subB bs o j) 0))
 have h0:beN (subB bs o 0) 0=0:=rfl
 go_enter Tryz.func62,Tryz.ntmps62
 go_wp2_with fail
 refine (Qsm k hk h8 _).mono ?_
 rintro e w1 ⟨rfl,L1⟩
 go_wp2_with fail
 go_loopw [10,11] (fun v i wr=>∃j:Nat,j≤k∧i= .int .i64 j∧v=W64 (QFZ (beN (subB bs o j) 0))∧Later w wr) (fun _ i _=>k-(intOf i).toNat)
 case atStart=>exact⟨0,by omega,rfl,by rw[h0];rfl,L1⟩
 case round=>
  clear L1
  obtain⟨j,hj,rfl,rfl,L⟩:=hrel
  by_cases hlt:j<k
  ·have hrd:=hb.later L
   have hs':=hs.out j (by omega)
   have hr':=hr.out j (bs.getD (o+j) 0)
   rw[←hs']at hr'
   replace hr':=hid hr'
   clear hs' hs hr
   obtain⟨b,p,rfl,hlb,hc⟩:=hrd.2 (by omega)
   have hcell:=hc (o+j) (W8 (bs.getD (o+j) 0)) (by rw[QFN,QFC,QFB (by omega)];rfl)
   generalize bs.getD (o+j) 0=z at *
   go_wp2
   exact⟨⟨j+1,by omega,by go_num,by rw[←hr'.out],L⟩,by simp[intOf];omega⟩
  ·obtain rfl:j=k:=by omega
   go_wp2
   go_ret2
   exact⟨rfl,L⟩
def x2 (xs ys:List UInt8):Nat→List UInt8
 | 0=>QFu xs.length 0
 | 1=>xs
 | _=>xorB xs ys
theorem Qtn {xs ys:List UInt8} (h:xs.length=ys.length):∀k,(x2 xs ys k).length=xs.length
 | 0=>by simp[x2]
 | 1=>rfl
 | k+2=>by
   show (xorB xs ys).length=_
   rw[Qa2 h,h]
theorem QAL {xs ys:List UInt8}:∀k,k<2→xorB (x2 xs ys k) ([xs,ys].getD k [])=x2 xs ys (k+1)
 | 0,_=>QhG _ _ rfl
 | 1,_=>rfl
theorem QoU {xs ys:List UInt8} (h:xs.length=ys.length) (k:Nat) (hk:k<2):([xs,ys].getD k []).length=xs.length:=by
 match k,hk with
 | 0,_=>rfl
 | 1,_=>exact h.symm
set_option maxRecDepth 100000 in
set_option maxHeartbeats 4000000 in
theorem QsJ (B:Option Addr) (d n:Nat) (xs ys:List UInt8) (w:World) (hp:Parts w (fun _=>False) B 2 [xs,ys]) (hx:xs.length=n) (hy:ys.length=n) (hn:n≤1048576):
 Calls Tryz.prog 163 #[.slice B 2 d] w fun e w'=>∃A' c',e= .returned (.tuple #[.slice A' n c',.int .i64 0])∧OwnB w' w.heap.size A' n c' (xorB xs ys)∧Later w w':=by
 have hxy:xs.length=ys.length:=by omega
 have hm:=hid (fun k hk=>(QoU hxy k hk).trans hx)
 have hst:=hid (fun k (hk:k<2) (Xk:List UInt8) (hX:[xs,ys].getD k []=Xk)=>show xorB (x2 xs ys k) Xk=x2 xs ys (k+1) by rw[←hX];exact QAL k hk)
 have hsl:=hid (fun k=>(Qtn hxy k).trans hx)
 have h0:x2 xs ys 0=QFu n 0:=by rw[x2,hx]
 have h2:x2 xs ys 2=xorB xs ys:=rfl
 have hRl:=hid ((Qa2 hxy).trans hy)
 generalize xorB xs ys=R at *
 go_enter Tryz.func163,Tryz.ntmps163
 go_wp2_with fail
 go_loopw [5,16] (fun _ i wr=>∃k:Nat,k≤2∧i= .int .i64 k∧Later w wr) (fun _ i _=>2-(intOf i).toNat)
 case atStart=>exact⟨0,by omega,rfl,Later.refl w⟩
 case round=>
  obtain⟨k,hk,rfl,L⟩:=hrel
  by_cases hlt:k<2
  ·obtain⟨b,o,Ak,nk,ck,rfl,hb,hck,hcap,hrd,_⟩:=(hp.later L).at_ hlt
   obtain⟨b',o',A0,n0,c0,he,hb',hck',hcap',hrd',_⟩:=(hp.later L).at_ (show 0<2 by omega)
   simp only[Option.some.injEq,Addr.mk.injEq,and_true]at he
   obtain⟨rfl,rfl⟩:=he
   rw[QG6]at hck'
   obtain rfl:nk=n:=by rw[←hrd.len];exact hm.out k hlt
   obtain rfl:n0=nk:=by rw[←hrd'.len];exact hm.out 0 (by omega)
   go_wp2
   exact⟨⟨k+1,by omega,by go_num,L⟩,by simp[intOf];omega⟩
  ·obtain⟨b',o',A0,n0,c0,rfl,hb',hck',hcap',hrd',_⟩:=(hp.later L).at_ (show 0<2 by omega)
   rw[QG6]at hck'
   obtain rfl:n0=n:=by rw[←hrd'.len];exact hm.out 0 (by omega)
   clear hrd'
   go_wp2_with (first
    | (refine QaE rfl _ _ _ rfl 5 _ 1 Tryz.underlying25 Qbq rfl _ _ _ _ n0 rfl rfl rfl rfl (by omega) (by omega) ?_;intro w1 hb1 hl1')
    | fail)
   have hz:QFu n0 (Value.int .u8 0)=(x2 xs ys 0).map W8:=by rw[h0,QGg];rfl
   replace hb1:Blk w1 wr.heap.size 5 ((x2 xs ys 0).map W8):=by rw[←hz];exact hb1
   have hgw:w.heap.size≤wr.heap.size:=L.size
   replace L:=L.trans hl1'
   clear hz h0 hl1' hck' hb'
   generalize wr.heap.size=g at *
   go_loopw [8,9,10,35] (fun _ _ _ i wr=>∃k:Nat,k≤2∧i= .int .i64 k∧Blk wr g 5 ((x2 xs ys k).map W8)∧Later w wr) (fun _ _ _ i _=>2-(intOf i).toNat)
   case atStart=>exact⟨0,by omega,rfl,hb1,L⟩
   case round=>
    clear hb1 L
    obtain⟨k,hk,rfl,hb1,L⟩:=hrel
    by_cases hlt:k<2
    ·obtain⟨b,o,Ak,nk,ck,he,hb,hck,hcap,hrd,_⟩:=hp.at_ hlt
     simp only[Option.some.injEq,Addr.mk.injEq,and_true]at he
     obtain⟨rfl,rfl⟩:=he
     obtain rfl:nk=n0:=by rw[←hrd.len];exact hm.out k hlt
     replace hck:=(L.below.cell (p:=⟨b',o'+k,none⟩) hb).trans hck
     replace hb:b'<wr.heap.size:=QFV hb L.size
     have hnext:=hst.out k hlt _ rfl
     have hyl:=hrd.len
     have hxl:=hsl.out k
     have hlen:(x2 xs ys k).length=([xs,ys].getD k []).length:=by omega
     generalize [xs,ys].getD k []=Y at *
     generalize hX':x2 xs ys (k+1)=X' at *
     generalize x2 xs ys k=X at *
     have HX':=hid hX'
     clear hX'
     have hX:=hid (fun k=>Qei hlen k)
     have hG:=hid (fun k (h:k<X.length)=>Qhl hlen h)
     have hS:=hid (fun k (h:k<X.length)=>Qf2 hlen h)
     have hA:=hid (Qhr hlen)
     have hN:=hid (Qf8 X Y)
     go_wp2_with fail
     go_loopw [9,10,41] (fun _ _ i wr=>∃j:Nat,j≤nk∧i= .int .i64 j∧Blk wr g 5 ((QfW X Y j).map W8)∧Later w wr) (fun _ _ i _=>nk-(intOf i).toNat)
     case atStart=>exact⟨0,by omega,rfl,by rw[hN.out];exact hb1,L⟩
     case round=>
      clear hb1 L
      obtain⟨j,hj,rfl,hb1,L⟩:=hrel
      by_cases hjt:j<nk
      ·obtain⟨b2,o2,rfl,hb2,hc2⟩:=RdB.at_ (hrd.later L) (by omega)
       have c1:=hc2 j hjt
       have hxk:=hX.out j (by omega)
       have d1:=hb1.cellD j (by rw[QFN,hG.out j (by omega)];rfl)
       have HS:=hid (hS.out j (by omega))
       clear hc2
       generalize X.getD j 0=x at *
       generalize Y.getD j 0=y at *
       go_wp2_with (first
        | (refine Qac rfl rfl _ _ _ rfl g j _ _ hb1 rfl (by rw[QFA];omega) rfl Qb0 ?_;intro v' w5 hv' hb5 ho5;simp[go_sem]at hv';subst hv')
        | fail)
       rw[QbC,HS.out]at hb5
       go_roundw
       case rel=>exact⟨j+1,by omega,by go_num,hb5,L.only ho5 hgw⟩
       case measure=>simp[intOf];omega
      ·obtain rfl:j=nk:=by omega
       have hAll:=hA.out
       rw[hxl,hnext]at hAll
       rw[hAll]at hb1
       go_wp2
       exact⟨⟨k+1,by omega,by go_num,by rw[HX'.out];exact hb1,L⟩,by simp[intOf];omega⟩
    ·obtain rfl:k=2:=by omega
     rw[h2]at hb1
     go_wp2
     go_ret2
     exact⟨_,_,rfl,by
      have:=Qcj hb1 hgw (by rw[QFA,hRl.out];omega)
      rw[QFA,hRl.out]at this
      exact this,L⟩
theorem QoO:(Tryz.prog.info? 51).map (·.size)=some 16:=by kernel_rfl
theorem QBB:Tryz.prog.eqGuardType Tryz.prog.depth 51=false:=by kernel_rfl
@[go_sem high] theorem Qzw (op:BinOp) (x y:Operand) (xs ys:Array Value) (w:World):(eqGuard op 51 x y (.agg xs) (.agg ys)).run Tryz.prog w= .ok () w:=run_eqGuard_agg w op _ x y xs ys QBB
@[go_sem high] theorem QBs (x y:Y16) (w:World):(binOp .eql 51 (.agg (x.val.map W8).toArray) (.agg (y.val.map W8).toArray)).run Tryz.prog w= .ok (.bool (x.val==y.val)) w:=by
  rw[run_eql_struct,Qbn w 0 W8 9998 51 5 16 Tryz.underlying51 Qb0 Tryz.underlying5 rfl (Qj9 _ _ Tryz.underlying5) _ _ x.2 y.2]
  rfl
@[go_sem high] theorem QBp (x y:Y16) (w:World):(binOp .neq 51 (.agg (x.val.map W8).toArray) (.agg (y.val.map W8).toArray)).run Tryz.prog w= .ok (.bool (x.val != y.val)) w:=by
  rw[run_neq_struct,Qbn w 0 W8 9998 51 5 16 Tryz.underlying51 Qb0 Tryz.underlying5 rfl (Qj9 _ _ Tryz.underlying5) _ _ x.2 y.2]
  rfl
theorem Qvj:Tryz.prog.built 51 []=some (QaH.val.map W8).toArray:=by
 show _=some ((QFu 16 (0:UInt8)).map W8).toArray
 rw[QGg]
 kernel_rfl
theorem QdU {P:Program} {t:TypeId} {d:TypeDesc} {k:Nat} {v:Value} (hu:P.underlying t=some d) (hd:QbY d=false) {zs:List Value} (hz:zs[k]?=some v) (w:World):(part t zs.toArray k).run P w= .ok v w:=by
 have ha:(isAgg t).run P w= .ok false w:=by
  unfold isAgg
  simp only[Sem.run_bind,run_underlying hu]
  cases d<;>simp_all [QbY]
 unfold part
 simp[Sem.run_bind,ha,Result.andThen_ok,hz]
theorem QjT {P:Program} {d k:Nat} {t:TypeId} {f:Field} {fs:List Field} (hf:f.type=t) (hu:P.underlying t=some (.int .u64)) (hn:f.name≠ "_") {xs ys:List Value} {p q:UInt64} (ho:f.offset=k) (hp:xs[k]?=some (W64 p)) (hq:ys[k]?=some (W64 q)) (w:World):
 (Op.eqFields (d+1) xs.toArray ys.toArray (f :: fs)).run P w=if p==q then (Op.eqFields (d+1) xs.toArray ys.toArray fs).run P w else .ok false w:=by
 rw[Op.eqFields,if_pos hn]
 simp only[Sem.run_bind,hf,ho,QdU hu rfl hp,QdU hu rfl hq,Result.andThen_ok,QjJ t _ hu d p q w]
 cases p==q<;>simp
theorem Qh3 {P:Program} {d k:Nat} {t:TypeId} {f:Field} {fs:List Field} (hf:f.type=t) (hu:P.underlying t=some (.int .u8)) (hn:f.name≠ "_") {xs ys:List Value} {p q:UInt8} (ho:f.offset=k) (hp:xs[k]?=some (W8 p)) (hq:ys[k]?=some (W8 q)) (w:World):
 (Op.eqFields (d+1) xs.toArray ys.toArray (f :: fs)).run P w=if p==q then (Op.eqFields (d+1) xs.toArray ys.toArray fs).run P w else .ok false w:=by
 rw[Op.eqFields,if_pos hn]
 simp only[Sem.run_bind,hf,ho,QdU hu rfl hp,QdU hu rfl hq,Result.andThen_ok,Qj9 t _ hu d p q w]
 cases p==q<;>simp
theorem QjW {P:Program} {d k:Nat} {t:TypeId} {f:Field} {fs:List Field} (hf:f.type=t) (hu:P.underlying t=some (.int .u32)) (hn:f.name≠ "_") {xs ys:List Value} {p q:UInt32} (ho:f.offset=k) (hp:xs[k]?=some (W32 p)) (hq:ys[k]?=some (W32 q)) (w:World):
 (Op.eqFields (d+1) xs.toArray ys.toArray (f :: fs)).run P w=if p==q then (Op.eqFields (d+1) xs.toArray ys.toArray fs).run P w else .ok false w:=by
 rw[Op.eqFields,if_pos hn]
 simp only[Sem.run_bind,hf,ho,QdU hu rfl hp,QdU hu rfl hq,Result.andThen_ok,QtS t _ hu d p q w]
 cases p==q<;>simp
def Qri (x y:Cmd):Bool:=x.kd==y.kd&&(x.fl==y.fl&&(x.dl==y.dl&&(x.nx==y.nx&&x.ma.val==y.ma.val)))
@[go_sem] theorem QBq (x:Cmd):Qri x x=true:=by simp[Qri]
theorem QnB (x:Cmd):((CC x).drop 4).take 16=x.ma.val.map W8:=by rw[QAr,QFJ (by rw[QFA,x.ma.2];omega)]
set_option maxRecDepth 100000 in
theorem QjE (x y:Cmd) (w:World) {fs:Array Field} (hu:Tryz.prog.underlying 53=some (.struct fs)):(Op.eqFields 9999 (CC x).toArray (CC y).toArray fs.toList).run Tryz.prog w= .ok (Qri x y) w:=by
 rw[Tryz.underlying53]at hu
 cases hu
 rw[Qh3 (d:=9998) (k:=0) rfl Tryz.underlying5 (by decide) rfl rfl rfl,Qh3 (d:=9998) (k:=1) rfl Tryz.underlying5 (by decide) rfl rfl rfl,QjW (d:=9998) (k:=2) rfl Tryz.underlying50 (by decide) rfl rfl rfl,
  QjT (d:=9998) (k:=3) rfl Tryz.underlying24 (by decide) rfl rfl rfl,Qdy (d:=9997) (k:=4) rfl Tryz.underlying51 QoO Qb0 Tryz.underlying5 (by decide) rfl (QnB x) (QnB y) x.ma.2 y.ma.2,Qdu]
 rw[Qri]
 cases x.kd==y.kd<;>cases x.fl==y.fl<;>cases x.dl==y.dl<;>cases x.nx==y.nx<;>cases x.ma.val==y.ma.val<;>rfl
theorem Qzf:Tryz.prog.eqGuardType Tryz.prog.depth 53=false:=by kernel_rfl
@[go_sem high] theorem QAb (op:BinOp) (x y:Operand) (xs ys:Array Value) (w:World):(eqGuard op 53 x y (.agg xs) (.agg ys)).run Tryz.prog w= .ok () w:=run_eqGuard_agg w op _ x y xs ys Qzf
set_option maxRecDepth 100000 in
@[go_sem high] theorem Qz5 (x y:Cmd) (w:World):(binOp .eql 53 (.agg (CC x).toArray) (.agg (CC y).toArray)).run Tryz.prog w= .ok (.bool (Qri x y)) w:=by
  rw[Qhn Tryz.underlying53 (by kernel_rfl),QjE x y w Tryz.underlying53]
  rfl
set_option maxRecDepth 100000 in
@[go_sem high] theorem QAw (x y:Cmd) (w:World):(binOp .neq 53 (.agg (CC x).toArray) (.agg (CC y).toArray)).run Tryz.prog w= .ok (.bool (!Qri x y)) w:=by
  rw[QiW Tryz.underlying53 (by kernel_rfl),QjE x y w Tryz.underlying53]
  rfl
theorem Qgt:(Tryz.prog.info? 53).map (·.size)=some 20:=by kernel_rfl
theorem Qwi:(Tryz.prog.info? 53).bind (·.zero)=some (.agg (CC cmd0).toArray):=by kernel_rfl
theorem Qqf (x:Cmd):∀u∈CC x,u.oneCell'=true:=by
 intro u hu
 simp only[CC,QFP,QGf]at hu
 rcases hu with rfl|rfl|rfl|rfl|⟨b,_,rfl⟩<;>rfl
theorem Qkw:Tryz.prog.built 53 []=some (CC cmd0).toArray:=by
 rw[Qa0 (pl:=[(0,1),(1,1),(2,1),(3,1),(4,16)]) Tryz.underlying53 Qwi (by kernel_rfl),Qb5]
theorem QrL (k f:UInt8):Tryz.prog.built 53 [(0,W8 k),(1,W8 f)]=some (CC ⟨k,f,0,0,QaH⟩).toArray:=by
 rw[Qa0 (pl:=[(0,1),(1,1),(2,1),(3,1),(4,16)]) Tryz.underlying53 Qwi (by kernel_rfl),QaR (vs:=[W8 k]) (off:=0) rfl rfl (by rw[Qan];simp),QaR (vs:=[W8 f]) (off:=1) rfl rfl (by rw[QaX _ _ _ (by rw[Qan];simp),Qan];simp),Qb5]
 rfl
section
variable {ops:Array Oper} {rest:List Oper} {o:Oper} {a:Act} {w:World} {Q:Exit→Act→World→Prop}
theorem QbP (hgd:o.guard=none) (hd:o.dst=none) (x y:Operand) (ho:o.op= .store 53 x y) {g:Nat} {t:TypeId} {l:List Value} {z:Cmd} (hg:Blk w g t l) (hx:a.eval x= .pointer (some ⟨g,0,none⟩)) (hy:a.eval y= .agg (CC z).toArray) (hl:l.length=20)
 (h:∀w',Blk w' g t (CC z)→Only g w w'→wpList Tryz.prog ops Q rest a w'):wpList Tryz.prog ops Q (o :: rest) a w:=
 Qaj hgd hd _ x y ho g t l _ hg hx hy 20 Qgt (Qan _) hl (Qqf _) h
theorem Qdc (hw:Region.wanted o (yielded ops a.tmps)=true) (x:Operand) (ho:o.op= .load 53 x) {g:Nat} {t:TypeId} {z:Cmd} (hb:Blk w g t (CC z)) (hx:a.eval x= .pointer (some ⟨g,0,none⟩))
 (h:wpList Tryz.prog ops Q rest (a.put o.dst (.agg (CC z).toArray)) w):wpList Tryz.prog ops Q (o :: rest) a w:=
 Qar hw _ x ho g 0 _ (fun j v hv=>by rw[QFX];exact hb.cellD j hv) hx _ Tryz.underlying53 rfl (by rw[Qan];exact Qgt) h
theorem QzK (hw:Region.wanted o (yielded ops a.tmps)=true) (x:Operand) (ho:o.op= .load 51 x) {g off:Nat} {y:Y16} (hc:∀j v,(y.val.map W8)[j]?=some v→w.cell? ⟨g,off+j,none⟩=some v) (hx:a.eval x= .pointer (some ⟨g,off,none⟩))
 (h:wpList Tryz.prog ops Q rest (a.put o.dst (.agg (y.val.map W8).toArray)) w):wpList Tryz.prog ops Q (o :: rest) a w:=
 Qar hw _ x ho g off _ hc hx _ Tryz.underlying51 rfl (by rw[QFA,y.2];exact QoO) h
end
theorem QcS {w:World} {g:Nat} {t:TypeId} {c:Cmd} (h:Blk w g t (CC c)):w.cell? ⟨g,0,none⟩=some (W8 c.kd)∧w.cell? ⟨g,1,none⟩=some (W8 c.fl)∧w.cell? ⟨g,2,none⟩=some (W32 c.dl)∧w.cell? ⟨g,3,none⟩=some (W64 c.nx)∧(∀ j v,(c.ma.val.map W8)[j]?=some v→w.cell? ⟨g,4+j,none⟩=some v):=
 ⟨h.cellD 0 rfl,h.cellD 1 rfl,h.cellD 2 rfl,h.cellD 3 rfl,fun j v hv=>h.cellD _ (by rw[show 4+j=j+1+1+1+1 by omega,CC];exact hv)⟩
set_option maxRecDepth 100000 in
set_option maxHeartbeats 1000000 in
theorem QqU (c:Cmd) (w:World):Calls Tryz.prog 164 #[.agg (CC c).toArray] w fun e w'=>e= .returned (.bool (Qdm c))∧Later w w':=by
 have hb:Blk (w.alloc (.cells (CC c).toArray 53)) w.heap.size 53 (CC c):=Blk.new _ _ _
 obtain⟨c0,_,_,c3,c4⟩:=QcS hb
 have L:=Qaa w (.cells (CC c).toArray 53)
 have hz:=Qvj
 rw[Qdm,show QFu 16 (0:UInt8)=QaH.val from rfl]
 clear hb
 go_enter Tryz.func164,Tryz.ntmps164
 generalize c.kd=kd at *
 generalize c.nx=nx at *
 generalize c.ma=mk at *
 generalize QaH=z at *
 have hn:(nx != 0)= !(nx==0):=rfl
 rw[hn]
 cases h1:(kd==1)<;>cases h2:(nx==0)<;>cases h4:(kd==4)
 all_goals
  go_wp2_with (first
   | (refine QzK rfl _ rfl c4 rfl ?_)
   | (refine Qak rfl _ _ rfl (z.val.map W8) (by simp only[QFI,QFR];exact hz) ?_)
   | fail)
  go_ret
  exact⟨rfl,L⟩
set_option maxRecDepth 100000 in
set_option maxHeartbeats 1000000 in
theorem Qsi (c:Cmd) (w:World):Calls Tryz.prog 143 #[.agg (CC c).toArray] w fun e w'=>e= .returned (.int .i64 (cmdE c:Nat))∧Later w w':=by
 have hb:Blk (w.alloc (.cells (CC c).toArray 53)) w.heap.size 53 (CC c):=Blk.new _ _ _
 obtain⟨c0,_,c2,_,_⟩:=QcS hb
 have L:=Qaa w (.cells (CC c).toArray 53)
 have hS:=hid (QqU c)
 have hE:cmdE c=if c.kd<1∨4<c.kd then 1 else if Qdm c=false then 3 else if 1000000<c.dl then 11 else 0:=rfl
 generalize Qdm c=sh at *
 by_cases h1:c.kd<1
 ·rw[if_pos (.inl h1)]at hE
  rw[hE]
  clear hE
  go_enter Tryz.func143,Tryz.ntmps143
  go_wp2_with fail
  go_ret
  exact⟨rfl,L⟩
 by_cases h4:4<c.kd
 ·rw[if_pos (.inr h4)]at hE
  rw[hE]
  clear hE
  go_enter Tryz.func143,Tryz.ntmps143
  go_wp2_with fail
  go_ret
  exact⟨rfl,L⟩
 rw[if_neg (by rintro (h|h)<;>contradiction)]at hE
 cases sh
 ·rw[if_pos rfl]at hE
  rw[hE]
  clear hE
  go_enter Tryz.func143,Tryz.ntmps143
  go_wp2_with (first
   | (refine Qdc rfl _ rfl hb rfl ?_)
   | fail)
  refine (hS.out _).mono ?_
  rintro e w1 ⟨rfl,l1⟩
  go_wp2_with fail
  go_ret
  exact⟨rfl,L.trans l1⟩
 rw[if_neg (by decide)]at hE
 by_cases hd:1000000<c.dl
 ·rw[if_pos hd]at hE
  rw[hE]
  clear hE
  go_enter Tryz.func143,Tryz.ntmps143
  go_wp2_with (first
   | (refine Qdc rfl _ rfl hb rfl ?_)
   | fail)
  refine (hS.out _).mono ?_
  rintro e w1 ⟨rfl,l1⟩
  replace c2:=(l1.below.cell (p:=⟨w.heap.size,2,none⟩) hb.lt).trans c2
  go_wp2_with fail
  go_ret
  exact⟨rfl,L.trans l1⟩
 ·rw[if_neg hd]at hE
  rw[hE]
  clear hE
  go_enter Tryz.func143,Tryz.ntmps143
  go_wp2_with (first
   | (refine Qdc rfl _ rfl hb rfl ?_)
   | fail)
  refine (hS.out _).mono ?_
  rintro e w1 ⟨rfl,l1⟩
  replace c2:=(l1.below.cell (p:=⟨w.heap.size,2,none⟩) hb.lt).trans c2
  go_wp2_with fail
  go_ret
  exact⟨rfl,L.trans l1⟩
def FC (key:List UInt8) (n:Nat):List Value:=key.map W8++[.int .i64 (n:Int)]
theorem Qvc {key:List UInt8} (h:key.length=32) (n:Nat):(FC key n).length=33:=by simp[FC,h]
theorem Qn8 {key:List UInt8} (h:key.length=32) (n:Nat):(FC key n)[32]?=some (.int .i64 (n:Int)):=by
 rw[FC,QFK (by rw[QFA,h];omega),QFA,h]
 rfl
theorem QCf {key:List UInt8} (h:key.length=32) (n m:Nat):(FC key n).set 32 (.int .i64 (m:Int))=FC key m:=by
 rw[FC,QF9 _ _ (by rw[QFA,h];omega),QFA,h]
 rfl
set_option maxRecDepth 100000 in
set_option maxHeartbeats 4000000 in
theorem QxQ (A:Option Addr) (c:Nat) (key:List UInt8) (w:World) (hk:RdB w A 32 key):
 Calls Tryz.prog 141 #[.slice A 32 c] w fun e w'=>∃g,e= .returned (.tuple #[.pointer (some ⟨g,0,none⟩),.int .i64 0])∧w.heap.size≤g∧Blk w' g 289 (FC key 0)∧Later w w':=by
 have hkl:=hk.len
 have hz:Tryz.prog.built 289 []=some (QFu 32 (Value.int .u8 0)++[Value.int .i64 0]).toArray:=by kernel_rfl
 have hsp:Qat (QFu 32 (Value.int .u8 0)++[Value.int .i64 0]) 0 ((key.map W8).take 32)=FC key 0:=by
  rw[QFJ (by rw[QFA];omega),Qat,QFA,hkl,FC]
  rfl
 have hb:=Blk.new w 289 (QFu 32 (Value.int .u8 0)++[Value.int .i64 0])
 have L:=Qaa w (.cells (QFu 32 (Value.int .u8 0)++[Value.int .i64 0]).toArray 289)
 have hll:(QFu 32 (Value.int .u8 0)++[Value.int .i64 0]).length=33:=by simp
 generalize QFu 32 (Value.int .u8 0)++[Value.int .i64 0]=Z at *
 go_enter Tryz.func141,Tryz.ntmps141
 go_wp2_with (first
  | (refine Qao rfl _ _ rfl Z ?hb ?_;(case hb=>simp only[QFI,QFR];exact hz))
  | (refine Qax rfl _ _ _ _ rfl 5 Tryz.underlying25 Qb0 w.heap.size 0 32 32 _ _ hb A 32 c (key.map W8) (hk.later L) (Qay _) rfl rfl (by omega) ?_;intro w2 hb2 ho2;rw[hsp]at hb2)
  | fail)
 go_ret2
 exact⟨_,rfl,QFE _,hb2,L.only ho2 (QFE _)⟩
set_option maxRecDepth 100000 in
set_option maxHeartbeats 4000000 in
theorem QtR (g n:Nat) (key:List UInt8) (w0 w:World) (hb:Blk w g 289 (FC key 0)) (hk:key.length=32) (hl:Later w0 w) (hg:w0.heap.size≤g) (hn:n≤65536):
 Calls Tryz.prog 162 #[.pointer (some ⟨g,0,none⟩),.int .i64 (n:Int)] w fun e w'=>∃A' c',e= .returned (.tuple #[.slice A' n c',.int .i64 0])∧OwnB w' w0.heap.size A' n c' (chaS key n)∧Later w0 w':=by
 have h1:decide ((n:Int)<0)=false:=decide_eq_false (by omega)
 have h2:decide ((65536:Int)<(n:Int))=false:=decide_eq_false (by omega)
 have hu:=hb.cellD 32 (Qn8 hk 0)
 have hfl:=Qvc hk 0
 have hset:=hid (QCf hk 0 n)
 have hP:=hid (fun (w:World) h=>QmN (some ⟨g,0,none⟩) 32 n key w h hn)
 have hcl:=hid (fun (w:World) (h:Blk w g 289 (FC key 0))=>(show RdB w (some ⟨g,0,none⟩) 32 key from Qeo h hk))
 have hlt:=hb.lt
 have hSl:=QaA key n
 have hF:Hid ((FC key 0)[32]?=some (.int .i64 0)):=hid (Qn8 hk 0)
 generalize FC key 0=F0 at *
 generalize FC key n=Fn at *
 generalize chaS key n=S at *
 go_enter Tryz.func162,Tryz.ntmps162
 go_wp2_with fail
 refine Qad [([0,1,2,3,4,5,6,7,8],9)] [10] [] (by as_aux_lemma=>kernel_rfl) (by as_aux_lemma=>kernel_rfl) (by intro _ _ d _ _ h;cases d<;>exact h) ?_
 simp only[Qah,pick,QFv,QFw,QFx,QFy,QFz]
 repeat (go_big_quiet_step (fail))
 refine wpQuiet_nil ?_
 go_wp2_with fail
 (with_reducible refine (hP.out _ (hcl.out _ hb.drew)).mono ?_);rintro e w2 ⟨A2,c2,rfl,o2,l2⟩
 go_wp2_with fail
 try refine⟨by first|assumption|exact Qab _|exact Qaa _ _|exact Later.refl _,?_⟩
 try simp only[Qah,pick,QFv,QFw,QFx,QFy,QFz]
 repeat (go_big_quiet_step (fail))
 refine wpQuiet_nil ?_
 have hb2:=(hb.later (Qab _)).later l2
 have hu2:=hb2.cellD 32 hF.out
 go_wp2_with (first
  | (refine Qac rfl rfl _ _ _ rfl g 32 _ _ hb2 rfl (by omega) rfl (by kernel_rfl) ?_;intro v3 w3 hv3 hb3 ho3)
  | fail)
 go_ret2
 have hbase:∀b,(Value.slice A2 n c2).ownBlock=some b→b≠g:=fun b hb' e=>by
  have:=(World.ownsRow.lt o2 b hb').1
  simp at this
  omega
 exact⟨_,_,rfl,Qbc (Ql3 o2 ho3 hbase) (by have:=hl.size;simpa using this),((hl.trans (Qab _)).trans l2).only ho3 hg⟩
set_option maxRecDepth 100000 in
set_option maxHeartbeats 4000000 in
theorem Qso (g m d:Nat) (B:Option Addr) (key:List UInt8) (ps:List (List UInt8)) (w0 w:World) (hp:Parts w0 (fun _=>False) B m ps) (hm:m≤1048576) (hb:Blk w g 289 (FC key 0)) (hk:key.length=32) (hl:Later w0 w) (hg:w0.heap.size≤g) (hn:ps.flatten.length≤65536):
 Calls Tryz.prog 142 #[.pointer (some ⟨g,0,none⟩),.slice B m d] w fun e w'=>∃A' c',e= .returned (.tuple #[.slice A' ps.flatten.length c',.int .i64 0])∧OwnB w' w0.heap.size A' ps.flatten.length c' (xorB ps.flatten (chaS key ps.flatten.length))∧Later w0 w':=by
 have hpl:=hp.len
 have hN:=hid (fun n h (w:World) (hb:Blk w g 289 (FC key 0)) hl=>QtR g n key w0 w hb hk hl hg h)
 have hJ:=hid (fun (w:World) h=>Qg9 B m d ps w h (by omega) (by omega))
 have hSl:=QaA key ps.flatten.length
 have hF:Hid ((FC key 0)[32]?=some (.int .i64 0)):=hid (Qn8 hk 0)
 have hft:=hid (fun k=>Qe4 ps k)
 have hle:=hid (fun k=>Qc4 ps k)
 have hX:=hid (fun (w:World) C e h=>QsJ C e ps.flatten.length ps.flatten (chaS key ps.flatten.length) w h rfl hSl (by omega))
 have hall:ps.take m=ps:=by rw[←hpl,List.take_length]
 generalize hS:chaS key ps.flatten.length=S at *
 generalize xorB ps.flatten S=X at *
 generalize FC key 0=F0 at *
 generalize hTe:ps.flatten.length=T at *
 replace hS:=hid hS
 go_enter Tryz.func142,Tryz.ntmps142
 go_wp2_with fail
 go_loopw [6,8,13] (fun t _ i wr=>∃k:Nat,k≤m∧i= .int .i64 k∧t= .int .i64 ((ps.take k).flatten.length:Nat)∧Later w wr) (fun _ _ i _=>m-(intOf i).toNat)
 case atStart=>exact⟨0,by omega,rfl,rfl,Later.refl w⟩
 case round=>
  obtain⟨k,hk',rfl,rfl,L⟩:=hrel
  by_cases hlt:k<m
  ·obtain⟨b,o,Ak,nk,ck,rfl,hb',hck,hcap,hrd,_⟩:=hp.at_ hlt
   replace hck:=((hl.trans L).below.cell (p:=⟨b,o+k,none⟩) hb').trans hck
   replace hb':b<wr.heap.size:=QFV hb' (hl.trans L).size
   have hu:=(hb.later L).cellD 32 hF.out
   have e1:(ps.take (k+1)).flatten.length=(ps.take k).flatten.length+nk:=by
    have h1:=hrd.len
    have h2:k<ps.length:=by omega
    rw[hft.out k h2,QFF]
    rw[QFC,QFB h2,QHq]at h1
    rw[h1]
   have e2:=hle.out (k+1)
   generalize (ps.take k).flatten.length=s at *
   generalize hs':(ps.take (k+1)).flatten.length=s' at *
   replace hs':=hid hs'
   have hcmp:decide ((65536:Int)-(s:Int)<(nk:Int))=false:=decide_eq_false (by omega)
   go_wp2
   exact⟨⟨k+1,by omega,by go_num,by rw[hs'.out,e1];go_num,L⟩,by simp[intOf];omega⟩
  ·obtain rfl:k=m:=by omega
   rw[hall,hTe]
   go_wp2_with fail
   (with_reducible refine (hN.out T hn _ (hb.later L) (hl.trans L)).mono ?_);rintro e w2 ⟨A2,c2,rfl,o2,l2⟩
   rw[hS.out]at o2
   go_wp2_with fail
   (with_reducible refine (hJ.out _ (hp.later l2)).mono ?_);rintro e w3 ⟨A3,c3,rfl,o3,l3⟩
   go_wp2_with fail
   have P4:Parts (w3.alloc (.cells #[.slice A3 T c3,.slice A2 T c2] 25)) (fun _=>False) (some ⟨w3.heap.size,0,none⟩) 2 [ps.flatten,S]:=
    Qdh (Blk.new w3 25 [.slice A3 T c3,.slice A2 T c2]) (Qfj (o3.rd.later (Qaa _ _)) o3.cap) (Qfj ((o2.later l3).rd.later (Qaa _ _)) o2.cap)
   (with_reducible refine (hX.out _ _ _ P4).mono ?_);rintro e w5 ⟨A5,c5,rfl,o5,l5⟩
   have L5:=((l2.trans l3).trans (Qaa w3 _)).trans l5
   go_wp2_with fail
   go_ret2
   exact⟨_,_,rfl,o5.mono ((l2.trans l3).trans (Qaa w3 _)).size,L5⟩
set_option maxRecDepth 100000 in
set_option maxHeartbeats 4000000 in
theorem Qui (A:Option Addr) (c m d:Nat) (B:Option Addr) (key:List UInt8) (ps:List (List UInt8)) (w:World) (hk:RdB w A 32 key) (hp:Parts w (fun _=>False) B m ps) (hm:m≤1048576) (hn:ps.flatten.length≤65536):
 Calls Tryz.prog 118 #[.slice A 32 c,.slice B m d] w fun e w'=>∃A' c',e= .returned (.tuple #[.slice A' ps.flatten.length c',.int .i64 0])∧OwnB w' w.heap.size A' ps.flatten.length c' (xorB ps.flatten (chaS key ps.flatten.length))∧Later w w':=by
 have hT:=hid (fun g (w':World) hb hl hg=>Qso g m d B key ps w w' hp hm hb hk.len hl hg hn)
 generalize xorB ps.flatten (chaS key ps.flatten.length)=X at *
 generalize ps.flatten.length=T at *
 go_enter Tryz.func118,Tryz.ntmps118
 go_wp2_with fail
 (with_reducible refine (QxQ A c key _ hk).mono ?_);rintro e w1 ⟨g,rfl,hg,hb,l1⟩
 go_wp2_with fail
 (with_reducible refine (hT.out g _ hb l1 hg).mono ?_);rintro e w2 ⟨A2,c2,rfl,o2,l2⟩
 go_wp2_with fail
 go_ret2
 exact⟨_,_,rfl,o2,l2⟩
theorem QdH:(Tryz.prog.info? 97).map (·.size)=some 288:=by kernel_rfl
theorem QhJ:(Tryz.prog.info? 100).map (·.size)=some 768:=by kernel_rfl
theorem Qz4:(Tryz.prog.info? 95).map (·.size)=some 240:=by kernel_rfl
theorem QA2:(Tryz.prog.info? 100).bind (·.zero)=some (.agg (QFu 768 (W8 0)).toArray):=by kernel_rfl
theorem zcH:Tryz.zeroCells97.toList=(QFu 288 (0:UInt8)).map W8:=by rw[QGg];kernel_rfl
theorem zcP:Tryz.zeroCells100.toList=(QFu 768 (0:UInt8)).map W8:=by rw[QGg];kernel_rfl
theorem Qq1:Tryz.prog.built 97 []=some ((QFu 288 (0:UInt8)).map W8).toArray:=by rw[QGg];kernel_rfl
theorem QqR:Tryz.prog.built 100 []=some ((QFu 768 (0:UInt8)).map W8).toArray:=by rw[QGg];kernel_rfl
theorem Qsf (h:List UInt8) (hl:h.length=288):Tryz.prog.built 100 [(0,.agg (h.map W8).toArray)]=some ((h++QFu 480 0).map W8).toArray:=by
 have hb:=Qd1 (n:=768) (pl:=[(0,288),(288,480)]) Tryz.underlying100 QA2 (by kernel_rfl) [(0,0,h)] (by
  intro x hx
  simp only[QFP,QFO,or_false]at hx
  subst hx
  simp only[hl];decide)
 rw[show Qe1 (QFu 768 0) ([(0,0,h)].map fun x=>(x.2.1,x.2.2))=h++QFu 480 0 by
  simp only[QFW,QFR,Qe1]
  rw[show QFu 768 (0:UInt8)=QFu 288 0++QFu 480 0 by rw[QGJ],QdT _ _ _ (by rw[QFM,hl])]]at hb
 exact hb
theorem QlT (bs:List UInt8) (n:Nat) (h:bs.length=n):subB bs 0 n=bs:=by rw[subB,QHM,QFJ (by omega)]
section
variable {ops:Array Oper} {rest:List Oper} {o:Oper} {a:Act} {w:World} {Q:Exit→Act→World→Prop}
theorem Qfl (hgd:o.guard=none) (hd:o.dst=none) (x y:Operand) (ho:o.op= .store 97 x y) {g:Nat} {t:TypeId} {l:List Value} {bs:List UInt8} (hg:Blk w g t l) (hx:a.eval x= .pointer (some ⟨g,0,none⟩)) (hy:a.eval y= .agg (bs.map W8).toArray) (hbl:bs.length=288) (hl:l.length=288)
 (h:∀w',Blk w' g t (bs.map W8)→Only g w w'→wpList Tryz.prog ops Q rest a w'):wpList Tryz.prog ops Q (o :: rest) a w:=
 QdB 288 hgd hd x y ho hg hx hy QdH hbl hl h
theorem QpO (hw:Region.wanted o (yielded ops a.tmps)=true) (x:Operand) (ho:o.op= .load 97 x) {g:Nat} {t:TypeId} {bs:List UInt8} (hb:Blk w g t (bs.map W8)) (hl:bs.length=288) (hx:a.eval x= .pointer (some ⟨g,0,none⟩))
 (h:wpList Tryz.prog ops Q rest (a.put o.dst (.agg (bs.map W8).toArray)) w):wpList Tryz.prog ops Q (o :: rest) a w:=
 QuJ 0 288 hw x ho hb hx Tryz.underlying97 rfl QdH (QlT _ _ hl) hl h
theorem Qg0 (hgd:o.guard=none) (hd:o.dst=none) (x y:Operand) (ho:o.op= .store 100 x y) {g:Nat} {t:TypeId} {l:List Value} {bs:List UInt8} (hg:Blk w g t l) (hx:a.eval x= .pointer (some ⟨g,0,none⟩)) (hy:a.eval y= .agg (bs.map W8).toArray) (hbl:bs.length=768) (hl:l.length=768)
 (h:∀w',Blk w' g t (bs.map W8)→Only g w w'→wpList Tryz.prog ops Q rest a w'):wpList Tryz.prog ops Q (o :: rest) a w:=
 QdB 768 hgd hd x y ho hg hx hy QhJ hbl hl h
theorem QtE (hw:Region.wanted o (yielded ops a.tmps)=true) (x:Operand) (ho:o.op= .load 100 x) {g:Nat} {t:TypeId} {bs:List UInt8} (hb:Blk w g t (bs.map W8)) (hl:bs.length=768) (hx:a.eval x= .pointer (some ⟨g,0,none⟩))
 (h:wpList Tryz.prog ops Q rest (a.put o.dst (.agg (bs.map W8).toArray)) w):wpList Tryz.prog ops Q (o :: rest) a w:=
 QuJ 0 768 hw x ho hb hx Tryz.underlying100 rfl QhJ (QlT _ _ hl) hl h
end
theorem QsG (b:List UInt8) (h:b.length=288):putB (putB (putB (QFu 288 0) 0 (b.take 32)) 32 ((b.drop 32).take 16)) 48 (b.drop 48)=b:=by
 have e1:b=b.take 32++((b.drop 32).take 16++b.drop 48):=by
  rw[show b.drop 48=(b.drop 32).drop 16 by rw[QGY],QF8,QF8]
 have l1:(b.take 32).length=32:=by simp;omega
 have l2:((b.drop 32).take 16).length=16:=by simp;omega
 have l3:(b.drop 48).length=240:=by simp;omega
 generalize b.take 32=p at *
 generalize (b.drop 32).take 16=q at *
 generalize b.drop 48=r at *
 rw[show QFu 288 (0:UInt8)=QFu 32 0++(QFu 16 0++QFu 240 0) by simp,QdT _ _ _ (by rw[QFM,l1]),QcF _ _ _ _ 32 l1 (by rw[QFM,l2]),←QFL,Qe2 _ _ _ 48 (by rw[QFF,l1,l2]) (by rw[QFM,l3]),QFL,e1]
set_option maxRecDepth 100000 in
set_option maxHeartbeats 4000000 in
theorem Qsl (A:Option Addr) (c:Nat) (b:List UInt8) (w:World) (hb:RdB w A 288 b) (hc:288≤c):
 Calls Tryz.prog 56 #[.slice A 288 c] w fun e w'=>e= .returned (.tuple #[.agg (b.map W8).toArray,.int .i64 0])∧Later w w':=by
 have hbl:=hb.len
 obtain⟨b0,p,rfl,hb00,_⟩:=hb.2 (by omega)
 have B0:Bag w (w.alloc (.cells Tryz.zeroCells97 97)) [(w.heap.size,97,(QFu 288 (0:UInt8)).map W8)]:=(Bag.none w).add (Qaa _ _) (by simp) (QFE _) ((Blk.new w _ Tryz.zeroCells97.toList).cast zcH)
 have hp:=QsG b hbl
 have l0:(QFu 288 (0:UInt8)).length=288:=by simp
 have HZ:=hid zcH
 generalize hZ:QFu 288 (0:UInt8)=Z at *
 have l1:(putB Z 0 (b.take 32)).length=288:=by rw[QcL (by rw[QFY];omega)];exact l0
 have l2:(putB (putB Z 0 (b.take 32)) 32 ((b.drop 32).take 16)).length=288:=by rw[QcL (by rw[QFY,QF0];omega)];exact l1
 have e3:((b.drop 48).take 240)=b.drop 48:=QFJ (by rw[QF0];omega)
 have HE:=hid e3
 have HP:=hid hp
 clear e3 hp hZ
 have hc32:cutA (some ⟨b0,p,none⟩) 32 c=some ⟨b0,p+32,none⟩:=by rw[cutA,if_neg (by omega)];rfl
 have hc48:cutA (some ⟨b0,p,none⟩) 48 c=some ⟨b0,p+48,none⟩:=by rw[cutA,if_neg (by omega)];rfl
 have h32:Hid (∀ w,RdB w (some ⟨b0,p,none⟩) 288 b→RdB w (some ⟨b0,p+32,none⟩) 256 (b.drop 32)):=hid (fun w h=>by rw[←hc32];exact RdB.cut h (by omega) hc)
 have h48:Hid (∀ w,RdB w (some ⟨b0,p,none⟩) 288 b→RdB w (some ⟨b0,p+48,none⟩) 240 (b.drop 48)):=hid (fun w h=>by rw[←hc48];exact RdB.cut h (by omega) hc)
 generalize hZ2:putB (putB Z 0 (b.take 32)) 32 ((b.drop 32).take 16)=Z2 at *
 generalize hZ1:putB Z 0 (b.take 32)=Z1 at *
 have H1:=hid hZ1
 have H2:=hid hZ2
 have hzl:(Z.map W8).length=288:=by rw[QFA];exact l0
 clear hZ1 hZ2
 go_enter Tryz.func56,Tryz.ntmps56
 have hrr:=hb.later (B0.lat.trans (Qaa _ (.cells Tryz.zeroCells97 97)))
 have hbb:=(Blk.new' (n:=w.heap.size+1) (w.alloc (.cells Tryz.zeroCells97 97)) 97 Tryz.zeroCells97.toList (by simp)).cast HZ.out
 go_wp2_with (first
  | (refine Qax rfl _ _ _ _ rfl 5 Tryz.underlying25 Qb0 (w.heap.size+1) 0 32 32 _ _ hbb (some ⟨b0,p,none⟩) 288 c (b.map W8) hrr (Qay _) rfl rfl (by rw[QFA];omega) ?_;intro w1 hb1 ho1;rw[←QG1,Qc5,H1.out]at hb1
     have B1:=B0.push (Qaa _ _) (by simp) ho1 hb1)
  | fail)
 clear hb1 ho1 B0 hrr hbb
 generalize w.heap.size+1=g at *
 have B2:=B1.drew
 simp only[Act.put,QFD,QFH,QFG]
 refine Qad [] [0,1,2,3] [4] (by as_aux_lemma=>kernel_rfl) (by as_aux_lemma=>kernel_rfl) (by intro _ _ d _ _ h;cases d<;>exact h) ?_
 simp only[Qah,pick,QFv,QFw,QFx,QFy,QFz]
 repeat (go_big_quiet_step (fail))
 refine wpQuiet_nil ?_
 go_wp2_with (first
  | (refine Qax rfl _ _ _ _ rfl 5 Tryz.underlying25 Qb0 g 32 16 16 _ _ (B2.nth 0 rfl) (some ⟨b0,p+32,none⟩) 256 (c-32) ((b.drop 32).map W8) (h32.out _ (hb.later B2.lat)) (Qay _) rfl rfl (by rw[QFA];omega) ?_;intro w3 hb3 ho3;rw[←QG1,Qc5,H2.out]at hb3
     have B3:=(B2.write 0 rfl ho3 hb3).drew)
  | fail)
 clear hb3 ho3 B1 B2
 simp only[Act.put,QFD,QFH,QFG]
 refine Qad [] [0,1,2,3] [4] (by as_aux_lemma=>kernel_rfl) (by as_aux_lemma=>kernel_rfl) (by intro _ _ d _ _ h;cases d<;>exact h) ?_
 simp only[Qah,pick,QFv,QFw,QFx,QFy,QFz]
 repeat (go_big_quiet_step (fail))
 refine wpQuiet_nil ?_
 go_wp2_with (first
  | (refine Qax rfl _ _ _ _ rfl 5 Tryz.underlying25 Qb0 g 48 240 240 _ _ (B3.nth 0 rfl) (some ⟨b0,p+48,none⟩) 240 (c-48) ((b.drop 48).map W8) (h48.out _ (hb.later B3.lat)) (Qay _) rfl rfl (by rw[QFA];omega) ?_;intro w4 hb4 ho4;rw[←QG1,Qc5,HE.out,HP.out]at hb4
     have B4:=B3.write 0 rfl ho4 hb4)
  | (refine QpO rfl _ rfl (B4.nth 0 rfl) hbl rfl ?_)
  | (refine Qfl rfl rfl _ _ rfl (B4.nth 1 rfl) rfl rfl hbl hzl ?_;intro w9 hb9 ho9)
  | fail)
 exact bodyPost_ret (Qaf rfl _ _ _ _ _ _ hb9 rfl Tryz.underlying97 rfl (by rw[QFA,hbl];exact QdH)) rfl ⟨rfl,(B4.write 1 rfl ho9 hb9).lat⟩
def kMac (s:List UInt8):List UInt8:=subB s 0 32
def kStr (s:List UInt8):List UInt8:=subB s 32 32
def kPay (s:List UInt8):List UInt8:=subB s 64 32
def kBli (s:List UInt8):List UInt8:=subB s 96 32
def kAlp (s:List UInt8):List UInt8:=subB s 128 32
def tagB (key al be:List UInt8):List UInt8:=(Qbm key (al++be)).take 16
def QmX (h s:List UInt8):Bool:=decide (tagB (kMac s) (subB h 0 32) (subB h 48 240)=subB h 32 16)
def Qcz (h s:List UInt8):List UInt8:=xorB (subB h 48 240++QFu 48 0) (chaS (kStr s) 288)
def QjQ (s:List UInt8):List UInt8:=QbH (kBli s) (kAlp s)
def QoS (s:List UInt8):Nat:=Qbu (kBli s) (kAlp s)
def Qil (h s:List UInt8):Nat:=if QmX h s=false then 6 else if decE ((Qcz h s).take 32)≠0 then 3 else if (decC ((Qcz h s).take 32)).kd=1 then QoS s else 0
def Qla (h s:List UInt8):Cmd:=if Qil h s=0 then decC ((Qcz h s).take 32) else cmd0
def QjZ (h s:List UInt8):List UInt8:=if Qil h s=0∧(decC ((Qcz h s).take 32)).kd=1 then QjQ s++(Qcz h s).drop 32 else QFu 288 0
theorem Qhs (h s:List UInt8) (hl:h.length=288):(Qcz h s).length=288:=by
 have h1:(subB h 48 240).length=240:=Qau (by omega)
 rw[Qcz,Qa2 (by simp[h1,QaA]),QaA]
theorem Qh1 (h s:List UInt8) (hl:h.length=288):(QjZ h s).length=288:=by
 unfold QjZ
 split
 ·rw[QFF,QF0,Qhs h s hl,QjQ,Qa9]
 ·rw[QFM]
def relE (s p:List UInt8):Nat:=Qil (p.take 288) s
def relC (s p:List UInt8):Cmd:=Qla (p.take 288) s
def QdG (s p:List UInt8):List UInt8:=QcK (kPay s) (p.drop 288) rsO
def relP (s p:List UInt8):List UInt8:=if relE s p=0∧(relC s p).kd=1 then QjZ (p.take 288) s++QdG s p else QFu 768 0
def relB (s p:List UInt8):List UInt8:=if relE s p=0∧(relC s p).kd≠1 then QdG s p else []
def unwE (k p:List UInt8):Nat:=if Qbu k (p.take 32)=0 then relE (Qdz k (p.take 32)) p else Qbu k (p.take 32)
def unwC (k p:List UInt8):Cmd:=if Qbu k (p.take 32)=0 then relC (Qdz k (p.take 32)) p else cmd0
def unwP (k p:List UInt8):List UInt8:=if Qbu k (p.take 32)=0 then relP (Qdz k (p.take 32)) p else QFu 768 0
def unwB (k p:List UInt8):List UInt8:=if Qbu k (p.take 32)=0 then relB (Qdz k (p.take 32)) p else []
theorem QdY {P:Program} {fn:Func} {p q u:Tmp} {ty ty2:TypeId} (h:fn.results= #[.cell p ty,.cell q ty2,.tmp u]) (tmps:Array Value) (w:World) (g g2:Nat) (t t2:TypeId) (l l2:List Value) (d d2:TypeDesc)
 (hg:Blk w g t l) (hp:tmps.getD p undef= .pointer (some ⟨g,0,none⟩)) (hu:P.underlying ty=some d) (hd:QbY d=true) (hi:(P.info? ty).map (·.size)=some l.length)
 (hg2:Blk w g2 t2 l2) (hp2:tmps.getD q undef= .pointer (some ⟨g2,0,none⟩)) (hu2:P.underlying ty2=some d2) (hd2:QbY d2=true) (hi2:(P.info? ty2).map (·.size)=some l2.length):
 (results fn tmps).run P w= .ok (.tuple #[.agg l.toArray,.agg l2.toArray,tmps.getD u undef]) w:=by
 have h1:=Qby (P:=P) w g 0 ty l d (fun j v hv=>by rw[QFX];exact hg.cellD j hv) hu hd hi
 have h2:=Qby (P:=P) w g2 0 ty2 l2 d2 (fun j v hv=>by rw[QFX];exact hg2.cellD j hv) hu2 hd2 hi2
 have hp':tmps[p]?.getD undef= .pointer (some ⟨g,0,none⟩):=by simpa using hp
 have hq':tmps[q]?.getD undef= .pointer (some ⟨g2,0,none⟩):=by simpa using hp2
 simp[results,h,Sem.run_bind,Result.andThen,hp',hq',asAddr,h1,h2]
set_option maxRecDepth 100000 in
set_option maxHeartbeats 2000000 in
theorem Qvq (h s:List UInt8) (hl:h.length=288) (hs:s.length=192) (w:World):
 Calls Tryz.prog 117 #[.agg (h.map W8).toArray,.agg (s.map W8).toArray] w fun e w'=>e= .returned (.bool (QmX h s))∧Later w w':=by
 have C1:=Qbb w 97 (h.map W8)
 have C2:Bag w ((w.alloc (.cells (h.map W8).toArray 97)).alloc (.cells (s.map W8).toArray 161)) [(w.heap.size+1,161,s.map W8),(w.heap.size,97,h.map W8)]:=
  C1.add (Qaa _ _) (by simp) (by omega) (Blk.new' _ _ _ (by simp))
 clear C1
 have s0:(subB h 0 32).length=32:=Qau (by omega)
 have s1:(subB h 32 16).length=16:=Qau (by omega)
 have s2:(subB h 48 240).length=240:=Qau (by omega)
 have k0:(kMac s).length=32:=Qau (by omega)
 have hC:=hid (fun A B C d e0 (w:World) h1 h2 h3=>Qvm A B C 32 32 2 d 16 e0 (kMac s) (subB h 32 16) [subB h 0 32,subB h 48 240] w h1 (by omega) (by omega) h2 (by omega) h3 (by omega) (by simp[s0,s2]))
 have hF:=hid (show QmX h s=decide ((Qbm (kMac s) [subB h 0 32,subB h 48 240].flatten).take 16=subB h 32 16) by
  rw[QmX,tagB,QHu,QHu,List.flatten_nil,QGb])
 go_enter Tryz.func117,Tryz.ntmps117
 go_wp2_with fail
 generalize hW:(w.alloc _).alloc _=w1
 replace C2:Bag w w1 [(w.heap.size+1,161,s.map W8),(w.heap.size,97,h.map W8)]:=by rw[←hW];exact C2
 clear hW
 refine Qad [([0,1,2,3,4,5,6,7,8],9),([],10)] [11] [] (by as_aux_lemma=>kernel_rfl) (by as_aux_lemma=>kernel_rfl) (by intro _ _ d _ _ h;cases d<;>exact h) ?_
 simp only[Qah,pick,QFv,QFw,QFx,QFy,QFz]
 repeat (go_big_quiet_step (fail))
 refine wpQuiet_nil ?_
 go_wp2_with fail
 try refine⟨by first|assumption|exact Qab _|exact Qaa _ _|exact Later.refl _,?_⟩
 try simp only[Qah,pick,QFv,QFw,QFx,QFy,QFz]
 repeat (go_big_quiet_step (fail))
 refine wpQuiet_nil ?_
 have l2:=(Qab w1).trans (Qaa _ (.cells #[.slice (some ⟨w.heap.size,0,none⟩) 32 32,.slice (some ⟨w.heap.size,48,none⟩) 240 240] 25))
 have B2:=C2.later l2
 have P3:=Qjh (bad:=fun _=>False) (ps:=[subB h 0 32,subB h 48 240]) ((Blk.new w1.drew 25 [.slice (some ⟨w.heap.size,0,none⟩) 32 32,.slice (some ⟨w.heap.size,48,none⟩) 240 240]).rd rfl) (Qco _ _) ⟨Qfj (Qc3 (B2.nth 1 rfl) rfl s0) (QFE _),Qfj (Qc3 (B2.nth 1 rfl) rfl s2) (QFE _),trivial⟩
 go_wp2_with fail
 (refine (hC.out _ _ _ _ _ _ (Qc3 (B2.nth 0 rfl) rfl k0) (Qc3 (B2.nth 1 rfl) rfl s1) P3).mono ?_);rintro e w3 ⟨rfl,l3⟩
 rw[←hF.out]
 go_wp2_with fail
 try refine⟨by first|assumption|exact Qab _|exact Qaa _ _|exact Later.refl _,?_⟩
 try simp only[Qah,pick,QFv,QFw,QFx,QFy,QFz]
 repeat (go_big_quiet_step (fail))
 refine wpQuiet_nil ?_
 go_wp2_with fail
 go_ret
 exact⟨rfl,B2.lat.trans l3⟩
abbrev cz0:List Value:=[.int .u8 0,.int .u8 0,.int .u32 0,.int .u64 0,.int .u8 0,.int .u8 0,.int .u8 0,.int .u8 0,.int .u8 0,.int .u8 0,.int .u8 0,.int .u8 0,.int .u8 0,.int .u8 0,.int .u8 0,.int .u8 0,.int .u8 0,.int .u8 0,.int .u8 0,.int .u8 0]
theorem QcW {w:World} {b p n:Nat} {bs:List UInt8} (h:RdB w (some ⟨b,p,none⟩) n bs) (i:Nat) (hi:i<n):w.cell? ⟨b,p+i,none⟩=some (W8 (bs.getD i 0)):=by
 obtain⟨b',o',he,_,hc⟩:=h.2 (by omega)
 have hl:=h.len
 cases he
 exact hc i _ (by rw[QFN,QFC,QFB (by omega)];rfl)
theorem Qrc (b:List UInt8) (hb:b.length=32) (d:UInt32) (x:UInt64) (hd:d=(QgK b).dl) (hx:x=(QgK b).nx):
 Qat (((CC ⟨b.getD 0 0,b.getD 1 0,0,0,QaH⟩).set 2 (W32 d)).set 3 (W64 x)) 4 (((b.drop 14).map W8).take 16)=CC (QgK b):=by
 subst hd hx
 have hm:=Qj5 b hb
 have hml:((b.drop 14).map W8).take 16=(subB b 14 16).map W8:=by rw[←QG1];rfl
 have hl:=Qau (bs:=b) (off:=14) (n:=16) (by omega)
 rw[hml,Qat,QFA,hl,QHs (by rw[QGd,QGd,Qan];omega),QGb,CC,CC,hm]
 rfl
theorem Qs8 (b:List UInt8):decE b=if (!(cmdE (QgK b)==1)&&(!(b.getD 30 0==0)|| !(b.getD 31 0==0)))=true then 3 else cmdE (QgK b):=by
 rw[decE]
 congr 1
 simp
theorem Qrf (c:Cmd):cmdE c=0∨cmdE c=1∨cmdE c=3∨cmdE c=11:=by
 unfold cmdE
 split
 ·simp
 ·split
  ·simp
  ·split<;>simp
set_option maxRecDepth 100000 in
set_option maxHeartbeats 8000000 in
theorem Qo6 (A:Option Addr) (c:Nat) (b:List UInt8) (w:World) (hb:RdB w A 32 b) (hc:32≤c):
 Calls Tryz.prog 119 #[.slice A 32 c] w fun e w'=>e= .returned (.tuple #[.agg (CC (decC b)).toArray,.int .i64 (decE b:Nat)])∧Later w w':=by
 have hbl:=hb.len
 obtain⟨b0,p,rfl,_,_⟩:=hb.2 (by omega)
 have B0:=Qbb w 53 cz0
 have hz0:cz0.length=20:=rfl
 have hG1:Hid (∀ w,RdB w (some ⟨b0,p,none⟩) 32 b→Calls Tryz.prog 62 #[.int .i64 2,.slice (some ⟨b0,p,none⟩) 32 c,.int .i64 2,.int .i64 4] w fun e w'=>e= .returned (.tuple #[W64 (QFZ (beN (subB b 2 4) 0)),.int .i64 0])∧Later w w'):=
  hid (fun w h=>Qip _ 32 c 2 4 b w h (by omega) (by omega) (by omega) (by omega))
 have hG2:Hid (∀ w,RdB w (some ⟨b0,p,none⟩) 32 b→Calls Tryz.prog 62 #[.int .i64 2,.slice (some ⟨b0,p,none⟩) 32 c,.int .i64 6,.int .i64 8] w fun e w'=>e= .returned (.tuple #[W64 (QFZ (beN (subB b 6 8) 0)),.int .i64 0])∧Later w w'):=
  hid (fun w h=>Qip _ 32 c 6 8 b w h (by omega) (by omega) (by omega) (by omega))
 have hfill:=hid (Qrc b hbl _ (QFZ (beN (subB b 6 8) 0)) (QAy (beN (subB b 2 4) 0)) rfl)
 have hcut:cutA (some ⟨b0,p,none⟩) 30 c=some ⟨b0,p+30,none⟩:=by rw[cutA,if_neg (by omega)];rfl
 have hcutc:cutA (some ⟨b0,p,none⟩) 14 c=some ⟨b0,p+14,none⟩:=by rw[cutA,if_neg (by omega)];rfl
 have hCk:=hid (Qsi (QgK b))
 have hE:=Qrf (QgK b)
 have hD:=hid (Qs8 b)
 have hC:=hid (show decC b=if decE b=0 then QgK b else cmd0 from rfl)
 have hcd:=hb.cut (c:=c) (show 14≤32 by omega) hc
 rw[hcutc]at hcd
 generalize QFZ (beN (subB b 2 4) 0)=x1 at *
 generalize QFZ (beN (subB b 6 8) 0)=x2 at *
 generalize decC b=DC at *
 generalize decE b=DE at *
 generalize cmdE (QgK b)=e9 at *
 have hb0:=Qkw
 go_enter Tryz.func119,Tryz.ntmps119
 go_wp2_with fail
 generalize hW:w.alloc _=w1
 replace B0:Bag w w1 [(w.heap.size,53,cz0)]:=by rw[←hW];exact B0
 clear hW
 have r1:=(hb.later B0.lat).later (Qab _)
 have c0:=QcW r1 0 (by omega)
 have c1:=QcW r1 1 (by omega)
 have hlb:b0<w1.drew.heap.size:=by
  obtain⟨_,_,he,h,_⟩:=r1.2 (by omega)
  cases he
  exact h
 rw[QG6]at c0
 have hbc:=QrL (b.getD 0 0) (b.getD 1 0)
 generalize b.getD 0 0=k0 at *
 generalize b.getD 1 0=k1 at *
 refine Qad [([0,1,2,3,4,5,6],7)] [] [8] (by as_aux_lemma=>kernel_rfl) (by as_aux_lemma=>kernel_rfl) (by intro _ _ d _ _ h;cases d<;>exact h) ?_
 simp only[Qah,pick,QFv,QFw,QFx,QFy,QFz]
 repeat (first|go_big_quiet_skip|(go_big_quiet_want;(refine QbL _ _ rfl (CC ⟨k0,k1,0,0,QaH⟩) (by simp only[QFI,QFW,QFR];exact hbc) ?_);simp only[Act.put,QFD,QFH,QFG];go_big_quiet_on)|(go_big_quiet_step (fail)))
 refine wpQuiet_nil ?_
 go_wp2_with fail
 try refine⟨by first|assumption|exact Qab _|exact Qaa _ _|exact Later.refl _,?_⟩
 try simp only[Qah,pick,QFv,QFw,QFx,QFy,QFz]
 repeat (go_big_quiet_step (fail))
 refine wpQuiet_nil ?_
 go_wp2_with (first
  | (refine QbP rfl rfl _ _ rfl (Blk.new w1.drew _ cz0) rfl rfl rfl ?_;intro w3 hb3 ho3)
  | fail)
 have B1:=B0.push ((Qab _).trans (Qaa _ _)) (QFE _) ho3 hb3
 clear hb3 ho3 r1 c0 c1 hlb B0
 generalize w1.heap.size=g3 at *
 (with_reducible refine (hG1.out _ (hb.later B1.lat)).mono ?_);rintro e w4 ⟨rfl,j4⟩
 go_wp2_with fail
 (with_reducible refine (hG2.out _ (hb.later (B1.lat.trans j4))).mono ?_);rintro e w5 ⟨rfl,j5⟩
 replace B1:=(B1.later j4).later j5
 clear j4 j5 hG1 hG2
 go_wp2_with (first
  | (refine Qac rfl rfl _ _ _ rfl g3 2 _ _ (B1.nth 0 rfl) rfl (by rw[Qan];omega) rfl (by kernel_rfl) ?_;intro v6 w6 hv6 hb6 ho6;simp[go_sem]at hv6;subst hv6
     have B2:=B1.write 0 rfl ho6 hb6)
  | (refine Qac rfl rfl _ _ _ rfl g3 3 _ _ (B2.nth 0 rfl) rfl (by rw[QGd,Qan];omega) rfl (by kernel_rfl) ?_;intro v7 w7 hv7 hb7 ho7;simp[go_sem]at hv7;subst hv7
     have B3:=B2.write 0 rfl ho7 hb7)
  | fail)
 clear hb6 ho6 hb7 ho7 B1 B2
 have B4:=B3.drew
 have hlb:b0<w7.drew.heap.size:=by
  obtain⟨_,_,he,h,_⟩:=(hb.later B4.lat).2 (by omega)
  cases he
  exact h
 refine Qad [] [0,1,2,3] [4] (by as_aux_lemma=>kernel_rfl) (by as_aux_lemma=>kernel_rfl) (by intro _ _ d _ _ h;cases d<;>exact h) ?_
 simp only[Qah,pick,QFv,QFw,QFx,QFy,QFz]
 repeat (go_big_quiet_step (fail))
 refine wpQuiet_nil ?_
 go_wp2_with (first
  | (refine Qax rfl _ _ _ _ rfl 5 Tryz.underlying25 Qb0 g3 4 16 16 _ _ (B4.nth 0 rfl) (some ⟨b0,p+14,none⟩) 18 (c-14) ((b.drop 14).map W8) (Rd.later hcd B4.lat) (Qay _) rfl rfl (by have:=Qan ⟨k0,k1,0,0,QaH⟩;simp only[QGd];omega) ?_;intro w8 hb8 ho8;rw[hfill.out]at hb8
     have B5:=B4.write 0 rfl ho8 hb8)
  | (refine Qdc rfl _ rfl (B5.nth 0 rfl) rfl ?_)
  | fail)
 (with_reducible refine (hCk.out _).mono ?_);rintro e w9 ⟨rfl,j9⟩
 have B6:=B5.later j9
 have r9:=hb.later B6.lat
 have c30:=QcW r9 30 (by omega)
 have c31:=QcW r9 31 (by omega)
 clear hb8 ho8 B5 B4 B3 j9 hcd hcutc hfill hCk r9 hlb hbc
 generalize b.getD 30 0=d30 at *
 generalize b.getD 31 0=d31 at *
 generalize QgK b=cm at *
 rcases hE with rfl|rfl|rfl|rfl
 all_goals
  cases h30:(d30==0)<;>cases h31:(d31==0)
  all_goals
   have hDE:=hD.out
   have hDC:=hC.out
   rw[h30,h31]at hDE
   simp at hDE
   rw[hDE]at hDC
   simp at hDC
   replace hDE:=hid hDE
   replace hDC:=hid hDC
   have n30:(d30 != 0)= !(d30==0):=rfl
   have n31:(d31 != 0)= !(d31==0):=rfl
   rw[h30]at n30
   rw[h31]at n31
   clear hD hC
   go_wp2_with (first
    | (refine Qdc rfl _ rfl (B6.nth 0 rfl) rfl ?_)
    | (refine Qak rfl _ _ rfl (CC cmd0) (by simp only[QFI,QFR];exact hb0) ?_)
    | (refine QbP rfl rfl _ _ rfl (B6.nth 1 rfl) rfl rfl hz0 ?_;intro w10 hb10 ho10)
    | fail)
   exact bodyPost_ret (Qaf rfl _ _ _ _ _ _ hb10 rfl Tryz.underlying53 rfl (by rw[Qan];exact Qgt)) rfl ⟨by rw[hDE.out,hDC.out];rfl,(B6.write 1 rfl ho10 hb10).lat⟩
section
variable {ops:Array Oper} {rest:List Oper} {o:Oper} {a:Act} {w:World} {Q:Exit→Act→World→Prop}
theorem Qkx {P:Program} {J:Act→Prop} (ty:TypeId) (x:Operand) (ho:o.op= .load ty x) {w0:World} {bad:List Nat} {g:Nat} {t:TypeId} {l:List Value} (off:Nat) (vs:List Value) (hb:Blk w0 g t l) (hn:∀b∈bad,g≠b) (hx:a.eval x= .pointer (some ⟨g,off,none⟩))
 (hv:∀j v,vs[j]?=some v→l[off+j]?=some v) (d:TypeDesc) (hu:P.underlying ty=some d) (hd:QbY d=true) (hi:(P.info? ty).map (·.size)=some vs.length) (h:J (a.put o.dst (.agg vs.toArray))):o.quiet P a (Spared w0 bad) J:=
 QaP _ x ho g off vs (fun _ hw j v hv'=>Blk.cellD (hw.blk hb hn) _ (hv j v hv')) hx d hu hd hi h
end
theorem Qnl (l:List Value):∀j v,l[j]?=some v→l[0+j]?=some v:=fun j v h=>by rw[QFX];exact h
theorem QqD {w:World} {g n k:Nat} {t:TypeId} {bs:List UInt8} {rest:List Value} (h:Blk w g t (bs.map W8++rest)) (hn:bs.length=n) (hk:k<n):Rd w (some ⟨g,k,none⟩) (n-k) ((bs.drop k).map W8):=by
 have h1:=(Qeo h hn).cut (k:=k) (c:=n+1) (by omega) (by omega)
 rw[show cutA (some ⟨g,0,none⟩) k (n+1)=some ⟨g,k,none⟩ by
  rw[cutA,if_neg (by omega)]
  show some ((⟨g,0,none⟩:Addr).add k)=_
  rw[Qda,QFX]]at h1
 exact h1
theorem Qv7 (nb pl:List UInt8) (hn:nb.length=32) (hp:pl.length=288):putB (putB (putB (QFu 288 0) 0 nb) 32 ((pl.drop 32).take 16)) 48 (pl.drop 48)=nb++pl.drop 32:=by
 have h:=QsG (nb++pl.drop 32) (by rw[QFF,QF0];omega)
 rw[QGv hn,QGe hn,show (nb++pl.drop 32).drop 48=pl.drop 48 by rw[QHI,QHs (by omega),QFz,hn,QGY]]at h
 exact h
theorem QrE (h s:List UInt8) (hl:h.length=288):[subB h 48 240,QFu 48 0].flatten.length=288∧xorB [subB h 48 240,QFu 48 0].flatten (chaS (kStr s) 288)=Qcz h s:=by
 have s2:(subB h 48 240).length=240:=Qau (by omega)
 rw[QHu,QHu,List.flatten_nil,QGb]
 exact⟨by rw[QFF,s2,QFM],rfl⟩
set_option maxRecDepth 100000 in
set_option maxHeartbeats 8000000 in
theorem Qtd (h s:List UInt8) (hl:h.length=288) (hs:s.length=192) (w:World):
 Calls Tryz.prog 89 #[.agg (h.map W8).toArray,.agg (s.map W8).toArray] w fun e w'=>e= .returned (.tuple #[.agg (CC (Qla h s)).toArray,.agg ((QjZ h s).map W8).toArray,.int .i64 (Qil h s:Nat)])∧Later w w':=by
 have HZ:=hid zcH
 have l0:(QFu 288 (0:UInt8)).length=288:=QFM
 have C1:=Qbb w 97 (h.map W8)
 have C2:=C1.add (Qaa _ (.cells (s.map W8).toArray 161)) (k:=w.heap.size+1) (by simp) (by omega) (Blk.new' _ _ _ (by simp))
 have C3:=C2.add (Qaa _ (.cells cz0.toArray 53)) (k:=w.heap.size+2) (by simp) (by omega) (Blk.new' _ _ _ (by simp))
 have C4:=C3.add (Qaa _ (.cells Tryz.zeroCells97 97)) (k:=w.heap.size+3) (by simp) (by omega) ((Blk.new' _ _ Tryz.zeroCells97.toList (by simp)).cast HZ.out)
 clear C1 C2 C3
 have s2:(subB h 48 240).length=240:=Qau (by omega)
 have k1:(kStr s).length=32:=Qau (by omega)
 have hF:=hid (Qvq h s hl hs)
 have hpf:=QrE h s hl
 have hT:=hid (fun B d g (w:World) hk hp=>Qui (some ⟨g,32,none⟩) 32 2 d B (kStr s) [subB h 48 240,QFu 48 0] w hk hp (by omega) (by rw[hpf.1];omega))
 rw[hpf.1,hpf.2]at hT
 have hpl:=Qhs h s hl
 have hD:=hid (fun A c (w:World) h1 h2=>Qo6 A c ((Qcz h s).take 32) w h1 h2)
 have hE:Hid (Qil h s=if QmX h s=false then 6 else if decE ((Qcz h s).take 32)≠0 then 3 else if (decC ((Qcz h s).take 32)).kd=1 then QoS s else 0):=hid rfl
 have hC:Hid (Qla h s=if Qil h s=0 then decC ((Qcz h s).take 32) else cmd0):=hid rfl
 have hN:Hid (QjZ h s=if Qil h s=0∧(decC ((Qcz h s).take 32)).kd=1 then QjQ s++(Qcz h s).drop 32 else QFu 288 0):=hid rfl
 have hX:=hid (fun (w:World)=>Qw6 s (kBli s) (kAlp s) hs rfl rfl w)
 have hput:=hid (Qv7 (QjQ s) (Qcz h s) (Qa9 _ _) hpl)
 have hXb:Hid (QbH (kBli s) (kAlp s)=QjQ s∧Qbu (kBli s) (kAlp s)=QoS s):=hid ⟨rfl,rfl⟩
 rw[hXb.out.1,hXb.out.2]at hX
 have nbl:(QjQ s).length=32:=Qa9 _ _
 have hb0:=Qkw
 have hbh:=Qq1
 clear hpf hXb
 generalize Qla h s=OC at *
 generalize QjZ h s=ON at *
 generalize Qil h s=OE at *
 generalize QmX h s=F at *
 generalize Qcz h s=pl at *
 generalize decE (pl.take 32)=dE at *
 generalize decC (pl.take 32)=dC at *
 generalize QoS s=nE at *
 generalize QjQ s=nb at *
 have hnbl:=nbl
 generalize QFu 288 (0:UInt8)=Z at *
 have hzl:(Z.map W8).length=288:=by rw[QFA];exact l0
 have hz0:cz0.length=20:=rfl
 go_enter Tryz.func89,Tryz.ntmps89
 go_wp2_with (first
  | (refine QpO rfl _ rfl (C4.nth 3 rfl) hl rfl ?_)
  | (refine Qld rfl _ rfl (C4.nth 2 rfl) hs rfl ?_)
  | fail)
 (with_reducible refine (hF.out _).mono ?_);rintro e w5 ⟨rfl,l5⟩
 replace C4:=C4.later l5
 clear l5 hF
 cases F
 ·have HE:=hE.out
  rw[if_pos rfl]at HE
  have HC:=hC.out
  rw[HE,if_neg (by decide)]at HC
  have HN:=hN.out
  rw[HE,if_neg (by simp)]at HN
  replace HE:=hid HE
  replace HC:=hid HC
  replace HN:=hid HN
  clear hE hC hN
  go_wp2_with (first
   | (refine Qak rfl 53 _ rfl (CC cmd0) (by simp only[QFI,QFR];exact hb0) ?_)
   | (refine Qak rfl 97 _ rfl (Z.map W8) (by simp only[QFI,QFR];exact hbh) ?_)
   | (refine QbP rfl rfl _ _ rfl (C4.nth 1 rfl) rfl rfl hz0 ?_;intro w6 hb6 ho6
      have C5:=C4.write 1 rfl ho6 hb6)
   | (refine Qfl rfl rfl _ _ rfl (C5.nth 0 rfl) rfl rfl l0 hzl ?_;intro w7 hb7 ho7
      have C6:=C5.write 0 rfl ho7 hb7)
   | fail)
  exact bodyPost_ret (QdY rfl _ _ _ _ _ _ _ _ _ _ (C6.nth 1 rfl) rfl Tryz.underlying53 rfl (by rw[Qan];exact Qgt) (C6.nth 0 rfl) rfl Tryz.underlying97 rfl (by rw[QFA,l0];exact QdH)) rfl ⟨by rw[HE.out,HC.out,HN.out];rfl,C6.lat⟩
 ·replace hE:Hid (OE=if dE≠0 then 3 else if dC.kd=1 then nE else 0):=hid (by rw[hE.out,if_neg (by decide)])
  go_wp2_with fail
  have C5:=C4.drew
  clear C4
  refine Qad [([0,1,2,3,4],5),([],6),([],7)] [8,9,10,11,12] [] (by as_aux_lemma=>kernel_rfl) (by as_aux_lemma=>kernel_rfl) (by intro _ _ d _ _ h;cases d<;>exact h) ?_
  simp only[Qah,pick,QFv,QFw,QFx,QFy,QFz]
  repeat (go_big_quiet_step (fail))
  refine wpQuiet_nil ?_
  go_wp2_with (first
   | (refine QaE rfl _ _ _ rfl 5 _ 1 Tryz.underlying25 Qbq rfl _ _ _ _ 48 rfl rfl rfl rfl (by omega) (by omega) ?_;intro w6 hb6 hl6)
   | fail)
  try refine⟨by first|assumption|exact Qab _|exact Qaa _ _|exact Later.refl _,?_⟩
  try simp only[Qah,pick,QFv,QFw,QFx,QFy,QFz]
  repeat (go_big_quiet_step (fail))
  refine wpQuiet_nil ?_
  have C6:=C5.later hl6
  go_wp2_with fail
  try refine⟨by first|assumption|exact Qab _|exact Qaa _ _|exact Later.refl _,?_⟩
  try simp only[Qah,pick,QFv,QFw,QFx,QFy,QFz]
  repeat (go_big_quiet_step (fail))
  refine wpQuiet_nil ?_
  have l7:=Qaa w6 (.cells #[.slice (some ⟨w.heap.size,48,none⟩) 240 240,.slice (some ⟨w5.drew.heap.size,0,none⟩) 48 48] 25)
  have C7:=C6.later l7
  have P7:=Qjh (bad:=fun _=>False) (ps:=[subB h 48 240,QFu 48 0]) ((Blk.new w6 25 [.slice (some ⟨w.heap.size,48,none⟩) 240 240,.slice (some ⟨w5.drew.heap.size,0,none⟩) 48 48]).rd rfl) (Qco _ _) ⟨Qfj (Qc3 (C7.nth 3 rfl) rfl s2) (QFE _),Qfj (show RdB _ (some ⟨w5.drew.heap.size,0,none⟩) 48 (QFu 48 0) from (hb6.later l7).rd rfl) (QFE _),trivial⟩
  have hk7:=Qc3 (C7.nth 2 rfl) rfl k1
  go_wp2_with fail
  (refine (hT.out _ _ _ _ hk7 P7).mono ?_);rintro e w8 ⟨A8,c8,rfl,o8,l8⟩
  obtain⟨g8,r8,rfl,hg8,hb8,hc8,hcc8⟩:=Qhe o8 (by omega)
  have C8:=C7.fresh l8 hg8 hb8
  clear C5 C6 C7 P7 hk7 l7 hl6 hb6 hT o8 hb8 hg8 hc8
  go_wp2_with fail
  try refine⟨by first|assumption|exact Qab _|exact Qaa _ _|exact Later.refl _,?_⟩
  try simp only[Qah,pick,QFv,QFw,QFx,QFy,QFz]
  repeat (go_big_quiet_step (fail))
  refine wpQuiet_nil ?_
  go_wp2_with fail
  (refine (hD.out _ _ _ ((Qeo (C8.nth 0 rfl) hpl).take (m:=32) (by omega)) (by omega)).mono ?_);rintro e w9 ⟨rfl,l9⟩
  have C9:=C8.later l9
  clear C8 l9 hD
  by_cases hd0:dE=0
  ·subst hd0
   replace hE:Hid (OE=if dC.kd=1 then nE else 0):=hid (by rw[hE.out,if_neg (by simp)])
   cases hk1:(dC.kd==1)
   ·have hkn: ¬dC.kd=1:=by simpa using hk1
    have n1:(dC.kd != 1)=true:=by rw[bne,hk1];rfl
    have HE:OE=0:=by rw[hE.out,if_neg hkn]
    have HC:OC=dC:=by rw[hC.out,HE,if_pos rfl]
    have HN:ON=Z:=by rw[hN.out,if_neg (fun h=>hkn h.2)]
    replace HE:=hid HE
    replace HC:=hid HC
    replace HN:=hid HN
    clear hE hC hN hkn
    go_wp2_with (first
     | (refine QbP rfl rfl _ _ rfl (Blk.new w9 _ cz0) rfl rfl rfl ?_;intro w10 hb10 ho10
        have C10:=C9.push (Qaa _ _) (QFE _) ho10 hb10
        have hc0:=(QcS hb10).1)
     | (refine Qdc rfl _ rfl (C10.nth 0 rfl) rfl ?_)
     | (refine Qak rfl 97 _ rfl (Z.map W8) (by simp only[QFI,QFR];exact hbh) ?_)
     | (refine QbP rfl rfl _ _ rfl (C10.nth 3 rfl) rfl rfl hz0 ?_;intro w11 hb11 ho11
        have C11:=C10.write 3 rfl ho11 hb11)
     | (refine Qfl rfl rfl _ _ rfl (C11.nth 2 rfl) rfl rfl l0 hzl ?_;intro w12 hb12 ho12
        have C12:=C11.write 2 rfl ho12 hb12)
     | fail)
    exact bodyPost_ret (QdY rfl _ _ _ _ _ _ _ _ _ _ (C12.nth 3 rfl) rfl Tryz.underlying53 rfl (by rw[Qan];exact Qgt) (C12.nth 2 rfl) rfl Tryz.underlying97 rfl (by rw[QFA,l0];exact QdH)) rfl ⟨by rw[HE.out,HC.out,HN.out];rfl,C12.lat⟩
   ·have hky:dC.kd=1:=by simpa using hk1
    have n1:(dC.kd != 1)=false:=by rw[bne,hk1];rfl
    replace hE:Hid (OE=nE):=hid (by rw[hE.out,if_pos hky])
    have l1:(putB Z 0 nb).length=288:=by rw[QcL (by omega)];exact l0
    have l2:(putB (putB Z 0 nb) 32 ((pl.drop 32).take 16)).length=288:=by rw[QcL (by rw[QFY,QF0];omega)];exact l1
    have e3:((pl.drop 48).take 240)=pl.drop 48:=QFJ (by rw[QF0];omega)
    have HNL:(nb++pl.drop 32).length=288:=by rw[QFF,QF0];omega
    replace e3:=hid e3
    generalize hZ2:putB (putB Z 0 nb) 32 ((pl.drop 32).take 16)=Z2 at *
    generalize hZ1:putB Z 0 nb=Z1 at *
    replace hZ1:=hid hZ1
    replace hZ2:=hid hZ2
    replace hky:=hid hky
    go_wp2_with (first
     | (refine QbP rfl rfl _ _ rfl (Blk.new w9 _ cz0) rfl rfl rfl ?_;intro w10 hb10 ho10
        have C10:=C9.push (Qaa _ _) (QFE _) ho10 hb10
        have hc0:=(QcS hb10).1)
     | (refine Qld rfl _ rfl ((C10.later (Qaa _ _)).nth 4 rfl) hs rfl ?_)
     | fail)
    (with_reducible refine (hX.out _).mono ?_);rintro e w11 ⟨rfl,l11⟩
    have C11:=(C10.fresh (Qaa _ _) (QFE _) ((Blk.new w10 _ Tryz.zeroCells97.toList).cast HZ.out)).later l11
    clear hb10 ho10 l11 C10 C9
    have hc0':=(QcS (C11.nth 1 rfl)).1
    by_cases hn0:nE=0
    ·subst hn0
     have HE:=hE.out
     have HC:OC=dC:=by rw[hC.out,HE,if_pos rfl]
     have HN:ON=nb++pl.drop 32:=by rw[hN.out,if_pos ⟨HE,hky.out⟩]
     replace HE:=hid HE
     replace HC:=hid HC
     replace HN:=hid HN
     clear hE hC hN
     generalize nb++pl.drop 32=NX at *
     have hNX:=hid (QlT NX 288 HNL)
     go_wp2_with (first
      | (refine Qmh 0 32 rfl rfl _ _ rfl (C11.nth 0 rfl) rfl rfl Qfa hnbl (by omega) ?_;intro w12 hb12 ho12;rw[hZ1.out]at hb12
         have C12:=C11.write 0 rfl ho12 hb12)
      | fail)
     have C13:=C12.drew
     clear C11 C12 hb12 ho12
     have r32:=QqD (k:=32) (C13.nth 2 rfl) hpl (by omega)
     refine Qad [] [0,1,2,3] [4] (by as_aux_lemma=>kernel_rfl) (by as_aux_lemma=>kernel_rfl) (by intro _ _ d _ _ h;cases d<;>exact h) ?_
     simp only[Qah,pick,QFv,QFw,QFx,QFy,QFz]
     repeat (go_big_quiet_step (fail))
     refine wpQuiet_nil ?_
     go_wp2_with (first
      | (refine Qax rfl _ _ _ _ rfl 5 Tryz.underlying25 Qb0 w10.heap.size 32 16 16 _ _ (C13.nth 0 rfl) (some ⟨g8,32,none⟩) 256 (c8-32) ((pl.drop 32).map W8) r32 (Qay _) rfl rfl (by rw[QFA];omega) ?_;intro w14 hb14 ho14;rw[←QG1,Qc5,hZ2.out]at hb14
         have C14:=C13.write 0 rfl ho14 hb14)
      | fail)
     have C15:=C14.drew
     simp only[Act.put,QFD,QFH,QFG]
     have r48:=QqD (k:=48) (C15.nth 2 rfl) hpl (by omega)
     refine Qad [] [0,1,2,3] [4] (by as_aux_lemma=>kernel_rfl) (by as_aux_lemma=>kernel_rfl) (by intro _ _ d _ _ h;cases d<;>exact h) ?_
     simp only[Qah,pick,QFv,QFw,QFx,QFy,QFz]
     repeat (go_big_quiet_step (fail))
     refine wpQuiet_nil ?_
     go_wp2_with (first
      | (refine Qax rfl _ _ _ _ rfl 5 Tryz.underlying25 Qb0 w10.heap.size 48 240 240 _ _ (C15.nth 0 rfl) (some ⟨g8,48,none⟩) 240 (c8-48) ((pl.drop 48).map W8) r48 (Qay _) rfl rfl (by rw[QFA];omega) ?_;intro w16 hb16 ho16;rw[←QG1,Qc5,e3.out,hput.out]at hb16
         have C16:=C15.write 0 rfl ho16 hb16)
      | fail)
     simp only[Act.put,QFD,QFH,QFG]
     clear hb14 ho14 hb16 ho16 C13 C14 C15 r32 r48
     have hne03:=C16.ne 0 4 rfl rfl (by decide)
     refine QeG [0,1] [2,3,4] (fun i=>if i=1 then [2] else []) (fun i=>if i=2 then w.heap.size+2 else w.heap.size+3) (by as_aux_lemma=>kernel_rfl) (by as_aux_lemma=>kernel_rfl) (by intro _ _ d _ _ h;cases d<;>exact h) ?_
     refine⟨_,rfl,rfl,?_⟩
     refine Qkx _ _ rfl 0 (CC dC) (C16.nth 1 rfl) (by simp) rfl (Qnl _) _ Tryz.underlying53 rfl (by rw[Qan];exact Qgt) ?_
     simp only[Act.put,QFD,QFH,QFG]
     refine⟨_,rfl,rfl,?_⟩
     refine Qkx _ _ rfl 0 (NX.map W8) (C16.nth 0 rfl) (by intro b hb;simp at hb;subst hb;exact hne03) rfl (Qnl _) _ Tryz.underlying97 rfl (by rw[QFA,HNL];exact QdH) ?_
     simp only[Act.put,QFD,QFH,QFG]
     simp only[QkH,QhF,pick,QFv,QFw,QFx,QFy,QFz]
     refine QbP rfl rfl _ _ rfl (C16.drew.nth 4 rfl) rfl rfl hz0 ?_
     intro w17 hb17 ho17
     have C17:=C16.drew.write 4 rfl ho17 hb17
     refine⟨ho17,?_⟩
     refine Qfl rfl rfl _ _ rfl (C17.nth 3 rfl) rfl rfl HNL hzl ?_
     intro w18 hb18 ho18
     have C18:=C17.write 3 rfl ho18 hb18
     refine⟨ho18,?_⟩
     go_wp2_with fail
     refine⟨World.grownBy.refl _ _,?_⟩
     go_wp2_with fail
     exact bodyPost_ret (QdY rfl _ _ _ _ _ _ _ _ _ _ (C18.nth 4 rfl) rfl Tryz.underlying53 rfl (by rw[Qan];exact Qgt) (C18.nth 3 rfl) rfl Tryz.underlying97 rfl (by rw[QFA,HNL];exact QdH)) rfl ⟨by rw[HE.out,HC.out,HN.out];rfl,C18.lat⟩
    ·have hne:((nE:Int) != 0)=true:=by simp;omega
     have HE:=hE.out
     have HC:OC=cmd0:=by rw[hC.out,HE,if_neg hn0]
     have HN:ON=Z:=by rw[hN.out,HE,if_neg (fun h=>hn0 h.1)]
     replace HE:=hid HE
     replace HC:=hid HC
     replace HN:=hid HN
     clear hE hC hN
     go_wp2_with (first
      | (refine Qmh 0 32 rfl rfl _ _ rfl (C11.nth 0 rfl) rfl rfl Qfa hnbl (by omega) ?_;intro w12 hb12 ho12;rw[hZ1.out]at hb12
         have C12:=C11.write 0 rfl ho12 hb12)
      | (refine Qak rfl 53 _ rfl (CC cmd0) (by simp only[QFI,QFR];exact hb0) ?_)
      | (refine Qak rfl 97 _ rfl (Z.map W8) (by simp only[QFI,QFR];exact hbh) ?_)
      | (refine QbP rfl rfl _ _ rfl (C12.nth 4 rfl) rfl rfl hz0 ?_;intro w13 hb13 ho13
         have C13:=C12.write 4 rfl ho13 hb13)
      | (refine Qfl rfl rfl _ _ rfl (C13.nth 3 rfl) rfl rfl l0 hzl ?_;intro w14 hb14 ho14
         have C14:=C13.write 3 rfl ho14 hb14)
      | fail)
     exact bodyPost_ret (QdY rfl _ _ _ _ _ _ _ _ _ _ (C14.nth 4 rfl) rfl Tryz.underlying53 rfl (by rw[Qan];exact Qgt) (C14.nth 3 rfl) rfl Tryz.underlying97 rfl (by rw[QFA,l0];exact QdH)) rfl ⟨by rw[HE.out,HC.out,HN.out];rfl,C14.lat⟩
  ·have HE:OE=3:=by rw[hE.out,if_pos hd0]
   have HC:OC=cmd0:=by rw[hC.out,HE,if_neg (by decide)]
   have HN:ON=Z:=by rw[hN.out,HE,if_neg (by simp)]
   have hne:((dE:Int) != 0)=true:=by simp;omega
   replace HE:=hid HE
   replace HC:=hid HC
   replace HN:=hid HN
   clear hE hC hN
   go_wp2_with (first
    | (refine QbP rfl rfl _ _ rfl (Blk.new w9 _ cz0) rfl rfl rfl ?_;intro w10 hb10 ho10
       have C10:=C9.push (Qaa _ _) (QFE _) ho10 hb10)
    | (refine Qak rfl 53 _ rfl (CC cmd0) (by simp only[QFI,QFR];exact hb0) ?_)
    | (refine Qak rfl 97 _ rfl (Z.map W8) (by simp only[QFI,QFR];exact hbh) ?_)
    | (refine QbP rfl rfl _ _ rfl (C10.nth 3 rfl) rfl rfl hz0 ?_;intro w11 hb11 ho11
       have C11:=C10.write 3 rfl ho11 hb11)
    | (refine Qfl rfl rfl _ _ rfl (C11.nth 2 rfl) rfl rfl l0 hzl ?_;intro w12 hb12 ho12
       have C12:=C11.write 2 rfl ho12 hb12)
    | fail)
   exact bodyPost_ret (QdY rfl _ _ _ _ _ _ _ _ _ _ (C12.nth 3 rfl) rfl Tryz.underlying53 rfl (by rw[Qan];exact Qgt) (C12.nth 2 rfl) rfl Tryz.underlying97 rfl (by rw[QFA,l0];exact QdH)) rfl ⟨by rw[HE.out,HC.out,HN.out];rfl,C12.lat⟩
end Go.Proofs.YtcbdgnlcknllnaaGreat
