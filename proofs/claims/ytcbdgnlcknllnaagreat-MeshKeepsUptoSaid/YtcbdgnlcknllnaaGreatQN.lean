/-
  Lemmas for the last text of this claim (part 14 of 20).
-/
import Derived.ArgAppend
import Derived.BigQuiet
import Derived.BigRegion
import Derived.ChangeOld
import Derived.Deep.RegionWith
import Derived.DeepKeys4
import Derived.JoinedCond
import Derived.LaidMore
import Derived.Laws.CopyOwn
import Derived.Laws.Externs
import Derived.Laws.IdiomStrings
import Derived.Laws.Tables
import Derived.Lib.AppendStr
import Derived.Lib.AppendZerosOnto
import Derived.Lib.Mul64
import Derived.Lib.SlBytesConst
import Derived.LoopN
import Derived.Maps.OwnSet
import Derived.OpenShut
import Derived.OrdersHeld
import Derived.ProofKit
import Derived.Shelf.Spec.BitsCarry
import Derived.ShutString
import Derived.Test.YtcbdgnlcknllnaaGreatProg
import Derived.Test.YtcbdgnlcknllnaaGreatRows
import Derived.WalkKit
import Derived.WalkLawsBesides
import Derived.WalkSpells
import Derived.Test.YtcbdgnlcknllnaaGreatQF
import Derived.Test.YtcbdgnlcknllnaaGreatQH
import Derived.Test.YtcbdgnlcknllnaaGreatQJ
import Derived.Test.YtcbdgnlcknllnaaGreatQK
import Derived.Test.YtcbdgnlcknllnaaGreatQL
open BitVec renaming toNat_shiftLeft → QzU
open List renaming replicate → Qyl, getElem?_cons_succ → Qym, getElem?_cons_zero → Qyn, length_map → Qyo, getElem?_eq_getElem → Qyq, nil_append → Qyr, cons_append → Qys, getD_eq_getElem?_getD → Qyt, setIfInBounds_toArray → Qyu, map_toArray → Qyw, set_cons_zero → Qyx, set_cons_succ → Qyy, length_append → Qyz, take_of_length_le → QyA, getElem?_eq_some_iff → QyB, getElem?_append_right → QyC, map_nil → QyD, getElem?_map → QyF, getElem?_append_left → QyG, mem_cons → QyI, map_cons → QyJ, append_assoc → QyK, not_mem_nil → QyN, length_replicate → QyO, length_drop → QyQ, take_succ_eq_append_getElem → QyR, append_nil → QyT, length_take → QyW, map_append → QyZ, mem_map → Qy1, set_append_right → Qy3, eq_nil_of_length_eq_zero → Qy4, map_replicate → Qy5, take_append_drop → Qy9, take_append_of_le_length → Qza, drop_append_of_le_length → Qzc, length_cons → Qzd, drop_left' → Qzh, getElem_mem → Qzk, map_take → Qzp, replicate_succ → QzA, getElem?_drop → QzP, drop_eq_nil_of_le → QzV, drop_drop → QAc
open Nat renaming le_refl → Qyv, zero_add → QyE, lt_of_lt_of_le → QyL, le_trans → QyX, mul_comm → Qzt, mul_assoc → Qzx, pow_succ → QzH, min_eq_left → QzN, add_zero → Qz3, shiftLeft_eq → Qz7, zero_le → QAa
open Option renaming toList_some → Qyp, getD_some → QAh
open UInt32 renaming ofNat → QyU, toNat_ofNat' → QAe, toNat_inj → QAt
open UInt64 renaming ofNat → QyM, toNat_ofNat' → QyP, toNat_inj → Qz9
set_option linter.all false
namespace Go.Proofs.YtcbdgnlcknllnaaGreat
open Go.RowKit
open Go.BigFrame
def xorB (xs ys:List UInt8):List UInt8:=List.zipWith (· ^^^ ·) xs ys
theorem Qbg {xs ys:List UInt8} (h:xs.length=ys.length):(xorB xs ys).length=ys.length:=by simp[xorB,h]
def QeW (xs ys:List UInt8) (k:Nat):List UInt8:=(xorB xs ys).take k++xs.drop k
theorem QfD {xs ys:List UInt8} (h:xs.length=ys.length) (k:Nat) (hk:k≤xs.length):(QeW xs ys k).length=xs.length:=by
 have:=Qbg h
 simp[QeW]
 omega
theorem QhK (xs ys:List UInt8):QeW xs ys 0=xs:=by simp[QeW]
theorem QjK {xs ys:List UInt8} (h:xs.length=ys.length):QeW xs ys xs.length=xorB xs ys:=by
 have:=Qbg h
 rw[QeW,List.drop_length,QyT,QyA (by omega)]
theorem QjZ {xs ys:List UInt8} (h:xs.length=ys.length) {k:Nat} (hk:k<xs.length):(QeW xs ys k)[k]?=some (xs.getD k 0):=by
 have:=Qbg h
 rw[QeW,QyC (by simp;omega),QyW,this,QzN (by omega),Nat.sub_self,QzP,Qz3,Qyq hk,Qyt,Qyq hk]
 rfl
theorem Qh5 {xs ys:List UInt8} (h:xs.length=ys.length) {k:Nat} (hk:k<xs.length):(QeW xs ys k).set k (xs.getD k 0 ^^^ ys.getD k 0)=QeW xs ys (k+1):=by
 have hl:=Qbg h
 have hg:(xorB xs ys)[k]?=some (xs.getD k 0 ^^^ ys.getD k 0):=by
  rw[xorB,List.getElem?_zipWith,Qyt,Qyt,Qyq hk,Qyq (show k<ys.length by omega)]
  rfl
 have hkx:k<(xorB xs ys).length:=by omega
 rw[QeW,QeW,Qy3 _ _ (by simp;omega),QyW,hl,QzN (by omega),Nat.sub_self,List.drop_eq_getElem_cons hk,Qyx,QyR hkx,QyK]
 have:(xorB xs ys)[k]=xs.getD k 0 ^^^ ys.getD k 0:=by
  have:=Qyq hkx
  rw[hg]at this
  exact (Option.some.inj this).symm
 rw[this]
 rfl
def beN:List UInt8→Nat→Nat
 | [],n=>n
 | b :: r,n=>beN r (n*256+b.toNat)
theorem QhC:∀(p q:List UInt8) (n:Nat),beN (p++q) n=beN q (beN p n)
 | [],_,_=>rfl
 | b :: r,q,n=>by rw[Qys,beN,QhC r q];rfl
theorem Qsj:∀(p:List UInt8) (n k:Nat),n<k→beN p n<k*256^p.length
 | [],n,k,h=>by simpa [beN] using h
 | b :: r,n,k,h=>by
   have hb:=b.toNat_lt
   have:=Qsj r (n*256+b.toNat) (k*256) (by omega)
   rw[beN,Qzd,QzH,Qzt (256^_),←Qzx]
   exact this
theorem QiW (bs:List UInt8) (k:Nat) (h:k<bs.length):bs.take (k+1)=bs.take k++[bs.getD k 0]:=by
 rw[QyR h,Qyt,Qyq h,QAh]
theorem Qqx (bs:List UInt8) (k:Nat) (h:k<bs.length):beN (bs.take (k+1)) 0=beN (bs.take k) 0*256+(bs.getD k 0).toNat:=by
 rw[QiW bs k h,QhC]
 rfl
theorem QuK (x:Nat) (b:UInt8):Qg8 (QyM x) 8 ||| b.toUInt64=QyM (x*256+b.toNat):=by
 apply Qz9.1
 have e1:(Qg8 (QyM x) 8).toNat=(x%2^64*256)%2^64:=by
  show ((QyM x).toBitVec <<< 8).toNat=_
  rw[QzU,Qz7]
  rfl
 have hb:=b.toNat_lt
 rw[UInt64.toNat_or,e1,UInt8.toNat_toUInt64,QyP]
 have e2:(x%2^64*256)%2^64=(x%2^56) <<< 8:=by
  rw[Qz7]
  omega
 rw[e2,←Nat.shiftLeft_add_eq_or_of_lt (by omega),Qz7]
 omega
theorem Qtm (x:Nat):(QyM x).toUInt32=QyU x:=by
 apply QAt.1
 rw[UInt64.toNat_toUInt32,QyP,QAe]
 show x%2^64%2^32=x%2^32
 omega
theorem Qmw (q:List UInt8) (n:Nat) (h:q.length=n):xorB (Qyl n 0) q=q:=by
 subst h
 induction q with
 | nil=>rfl
 | cons a q ih=>
   rw[Qzd,QzA]
   show (0 ^^^ a) :: xorB (Qyl q.length 0) q=_
   rw[ih,UInt8.zero_xor]
def Qgb (c:Cmd):Bool:=(c.kd==1)==(c.nx != 0)&&(c.kd==4||c.ma.val==Qyl 16 0)
def cmdE (c:Cmd):Nat:=if c.kd<1∨4<c.kd then 1 else if Qgb c=false then 3 else if 1000000<c.dl then 11 else 0
def QeY (b:List UInt8):Cmd:=⟨b.getD 0 0,b.getD 1 0,QyU (beN (subB b 2 4) 0),QyM (beN (subB b 6 8) 0),⟨((b++Qyl 32 0).drop 14).take 16,by simp⟩⟩
theorem Qmq (b:List UInt8) (h:b.length=32):(QeY b).ma.val=subB b 14 16:=by
 show ((b++Qyl 32 0).drop 14).take 16=_
 rw[Qzc (by omega),Qza (by rw[QyQ];omega)]
 rfl
def decE (b:List UInt8):Nat:=if cmdE (QeY b)≠1∧(b.getD 30 0≠0∨b.getD 31 0≠0) then 3 else cmdE (QeY b)
def decC (b:List UInt8):Cmd:=if decE b=0 then QeY b else cmd0
set_option maxRecDepth 100000 in
theorem Qmc (k:Nat) (hk:1≤k) (h8:k≤8) (w:World):Calls Tryz.prog 91 #[.int .i64 2,.int .i64 (k:Int)] w fun e w'=>e= .returned (.bool true)∧Later w w':=by
 have h1:decide ((1:Int)≤(k:Int))=true:=decide_eq_true (by omega)
 have h2:decide ((k:Int)≤8)=true:=decide_eq_true (by omega)
 go_enter Tryz.func91,Tryz.ntmps91
 go_wp2
 go_ret
 exact⟨rfl,Later.refl w⟩
theorem Qjx (bs:List UInt8) (o k:Nat) (h:o+k<bs.length):beN (subB bs o (k+1)) 0=beN (subB bs o k) 0*256+(bs.getD (o+k) 0).toNat:=by
 rw[subB,Qqx _ _ (by rw[QyQ];omega)]
 show _=beN ((bs.drop o).take k) 0*256+_
 congr 2
 rw[Qyt,Qyt,QzP]
set_option maxRecDepth 100000 in
set_option maxHeartbeats 4000000 in
theorem QfZ (A:Option Addr) (n c o k:Nat) (bs:List UInt8) (w:World) (hb:RdB w A n bs) (hn:n≤140737488355328) (hk:1≤k) (h8:k≤8) (ho:o+k≤n):
 Calls Tryz.prog 62 #[.int .i64 2,.slice A n c,.int .i64 (o:Int),.int .i64 (k:Int)] w fun e w'=>e= .returned (.tuple #[W64 (QyM (beN (subB bs o k) 0)),.int .i64 0])∧Later w w':=by
 have hbl:=hb.len
 have h1:decide ((n:Int)<(o:Int))=false:=decide_eq_false (by omega)
 have h2:decide ((n:Int)-(o:Int)<(k:Int))=false:=decide_eq_false (by omega)
 have h3:decide ((o:Int)<0)=false:=decide_eq_false (by omega)
 have hs:=hid (fun j=>Qjx bs o j)
 have hr:=hid (fun j=>QuK (beN (subB bs o j) 0))
 have h0:beN (subB bs o 0) 0=0:=rfl
 go_enter Tryz.func62,Tryz.ntmps62
 go_wp2_with fail
 refine (Qmc k hk h8 _).mono ?_
 rintro e w1 ⟨rfl,L1⟩
 go_wp2_with fail
 go_loopw [10,11] (fun v i wr=>∃j:Nat,j≤k∧i= .int .i64 j∧v=W64 (QyM (beN (subB bs o j) 0))∧Later w wr) (fun _ i _=>k-(intOf i).toNat)
 case atStart=>exact⟨0,by omega,rfl,by rw[h0];rfl,L1⟩
 case round=>
  clear L1
  obtain⟨j,hj,rfl,rfl,L⟩:=hrel
  by_cases hlt:j<k
  ·have hrd:=hb.later L
   have hs':=hs.out j (by omega)
   have hr':=hr.out j (bs.getD (o+j) 0)
   rw[←hs']at hr'
   replace hr':=hid hr'
   clear hs' hs hr
   obtain⟨b,p,rfl,hlb,hc⟩:=hrd.2 (by omega)
   have hcell:=hc (o+j) (W8 (bs.getD (o+j) 0)) (by rw[QyF,Qyt,Qyq (by omega)];rfl)
   generalize bs.getD (o+j) 0=z at *
   go_wp2
   exact⟨⟨j+1,by omega,by go_num,by rw[←hr'.out],L⟩,by simp[intOf];omega⟩
  ·obtain rfl:j=k:=by omega
   go_wp2
   go_ret2
   exact⟨rfl,L⟩
def x2 (xs ys:List UInt8):Nat→List UInt8
 | 0=>Qyl xs.length 0
 | 1=>xs
 | _=>xorB xs ys
theorem QnS {xs ys:List UInt8} (h:xs.length=ys.length):∀k,(x2 xs ys k).length=xs.length
 | 0=>by simp[x2]
 | 1=>rfl
 | k+2=>by
   show (xorB xs ys).length=_
   rw[Qbg h,h]
theorem Qtn {xs ys:List UInt8}:∀k,k<2→xorB (x2 xs ys k) ([xs,ys].getD k [])=x2 xs ys (k+1)
 | 0,_=>Qmw _ _ rfl
 | 1,_=>rfl
theorem Qkg {xs ys:List UInt8} (h:xs.length=ys.length) (k:Nat) (hk:k<2):([xs,ys].getD k []).length=xs.length:=by
 match k,hk with
 | 0,_=>rfl
 | 1,_=>exact h.symm
set_option maxRecDepth 100000 in
set_option maxHeartbeats 4000000 in
theorem QpM (B:Option Addr) (d n:Nat) (xs ys:List UInt8) (w:World) (hp:Parts w (fun _=>False) B 2 [xs,ys]) (hx:xs.length=n) (hy:ys.length=n) (hn:n≤1048576):
 Calls Tryz.prog 163 #[.slice B 2 d] w fun e w'=>∃A' c',e= .returned (.tuple #[.slice A' n c',.int .i64 0])∧OwnB w' w.heap.size A' n c' (xorB xs ys)∧Later w w':=by
 have hxy:xs.length=ys.length:=by omega
 have hm:=hid (fun k hk=>(Qkg hxy k hk).trans hx)
 have hst:=hid (fun k (hk:k<2) (Xk:List UInt8) (hX:[xs,ys].getD k []=Xk)=>show xorB (x2 xs ys k) Xk=x2 xs ys (k+1) by rw[←hX];exact Qtn k hk)
 have hsl:=hid (fun k=>(QnS hxy k).trans hx)
 have h0:x2 xs ys 0=Qyl n 0:=by rw[x2,hx]
 have h2:x2 xs ys 2=xorB xs ys:=rfl
 have hRl:=hid ((Qbg hxy).trans hy)
 generalize xorB xs ys=R at *
 go_enter Tryz.func163,Tryz.ntmps163
 go_wp2_with fail
 go_loopw [5,16] (fun _ i wr=>∃k:Nat,k≤2∧i= .int .i64 k∧Later w wr) (fun _ i _=>2-(intOf i).toNat)
 case atStart=>exact⟨0,by omega,rfl,Later.refl w⟩
 case round=>
  obtain⟨k,hk,rfl,L⟩:=hrel
  by_cases hlt:k<2
  ·obtain⟨b,o,Ak,nk,ck,rfl,hb,hck,hcap,hrd,_⟩:=(hp.later L).at_ hlt
   obtain⟨b',o',A0,n0,c0,he,hb',hck',hcap',hrd',_⟩:=(hp.later L).at_ (show 0<2 by omega)
   simp only[Option.some.injEq,Addr.mk.injEq,and_true]at he
   obtain⟨rfl,rfl⟩:=he
   rw[Qz3]at hck'
   obtain rfl:nk=n:=by rw[←hrd.len];exact hm.out k hlt
   obtain rfl:n0=nk:=by rw[←hrd'.len];exact hm.out 0 (by omega)
   go_wp2
   exact⟨⟨k+1,by omega,by go_num,L⟩,by simp[intOf];omega⟩
  ·obtain⟨b',o',A0,n0,c0,rfl,hb',hck',hcap',hrd',_⟩:=(hp.later L).at_ (show 0<2 by omega)
   rw[Qz3]at hck'
   obtain rfl:n0=n:=by rw[←hrd'.len];exact hm.out 0 (by omega)
   clear hrd'
   go_wp2_with (first
    | (refine QaT rfl _ _ _ rfl 5 _ 1 Tryz.underlying25 QcG rfl _ _ _ _ n0 rfl rfl rfl rfl (by omega) (by omega) ?_;intro w1 hb1 hl1')
    | fail)
   have hz:Qyl n0 (Value.int .u8 0)=(x2 xs ys 0).map W8:=by rw[h0,Qy5];rfl
   replace hb1:Blk w1 wr.heap.size 5 ((x2 xs ys 0).map W8):=by rw[←hz];exact hb1
   have hgw:w.heap.size≤wr.heap.size:=L.size
   replace L:=L.trans hl1'
   clear hz h0 hl1' hck' hb'
   generalize wr.heap.size=g at *
   go_loopw [8,9,10,35] (fun _ _ _ i wr=>∃k:Nat,k≤2∧i= .int .i64 k∧Blk wr g 5 ((x2 xs ys k).map W8)∧Later w wr) (fun _ _ _ i _=>2-(intOf i).toNat)
   case atStart=>exact⟨0,by omega,rfl,hb1,L⟩
   case round=>
    clear hb1 L
    obtain⟨k,hk,rfl,hb1,L⟩:=hrel
    by_cases hlt:k<2
    ·obtain⟨b,o,Ak,nk,ck,he,hb,hck,hcap,hrd,_⟩:=hp.at_ hlt
     simp only[Option.some.injEq,Addr.mk.injEq,and_true]at he
     obtain⟨rfl,rfl⟩:=he
     obtain rfl:nk=n0:=by rw[←hrd.len];exact hm.out k hlt
     replace hck:=(L.below.cell (p:=⟨b',o'+k,none⟩) hb).trans hck
     replace hb:b'<wr.heap.size:=QyL hb L.size
     have hnext:=hst.out k hlt _ rfl
     have hyl:=hrd.len
     have hxl:=hsl.out k
     have hlen:(x2 xs ys k).length=([xs,ys].getD k []).length:=by omega
     generalize [xs,ys].getD k []=Y at *
     generalize hX':x2 xs ys (k+1)=X' at *
     generalize x2 xs ys k=X at *
     have HX':=hid hX'
     clear hX'
     have hX:=hid (fun k=>QfD hlen k)
     have hG:=hid (fun k (h:k<X.length)=>QjZ hlen h)
     have hS:=hid (fun k (h:k<X.length)=>Qh5 hlen h)
     have hA:=hid (QjK hlen)
     have hN:=hid (QhK X Y)
     go_wp2_with fail
     go_loopw [9,10,41] (fun _ _ i wr=>∃j:Nat,j≤nk∧i= .int .i64 j∧Blk wr g 5 ((QeW X Y j).map W8)∧Later w wr) (fun _ _ i _=>nk-(intOf i).toNat)
     case atStart=>exact⟨0,by omega,rfl,by rw[hN.out];exact hb1,L⟩
     case round=>
      clear hb1 L
      obtain⟨j,hj,rfl,hb1,L⟩:=hrel
      by_cases hjt:j<nk
      ·obtain⟨b2,o2,rfl,hb2,hc2⟩:=RdB.at_ (hrd.later L) (by omega)
       have c1:=hc2 j hjt
       have hxk:=hX.out j (by omega)
       have d1:=hb1.cellD j (by rw[QyF,hG.out j (by omega)];rfl)
       have HS:=hid (hS.out j (by omega))
       clear hc2
       generalize X.getD j 0=x at *
       generalize Y.getD j 0=y at *
       go_wp2_with (first
        | (refine Qag rfl rfl _ _ _ rfl g j _ _ hb1 rfl (by rw[Qyo];omega) rfl Qbo ?_;intro v' w5 hv' hb5 ho5;simp[go_sem]at hv';subst hv')
        | fail)
       rw[Qcs,HS.out]at hb5
       go_roundw
       case rel=>exact⟨j+1,by omega,by go_num,hb5,L.only ho5 hgw⟩
       case measure=>simp[intOf];omega
      ·obtain rfl:j=nk:=by omega
       have hAll:=hA.out
       rw[hxl,hnext]at hAll
       rw[hAll]at hb1
       go_wp2
       exact⟨⟨k+1,by omega,by go_num,by rw[HX'.out];exact hb1,L⟩,by simp[intOf];omega⟩
    ·obtain rfl:k=2:=by omega
     rw[h2]at hb1
     go_wp2
     go_ret2
     exact⟨_,_,rfl,by
      have:=Qdj hb1 hgw (by rw[Qyo,hRl.out];omega)
      rw[Qyo,hRl.out]at this
      exact this,L⟩
theorem Qkm:(Tryz.prog.info? 51).map (·.size)=some 16:=by kernel_rfl
theorem Qvu:Tryz.prog.eqGuardType Tryz.prog.depth 51=false:=by kernel_rfl
@[go_sem high] theorem Qub (op:BinOp) (x y:Operand) (xs ys:Array Value) (w:World):(eqGuard op 51 x y (.agg xs) (.agg ys)).run Tryz.prog w= .ok () w:=run_eqGuard_agg w op _ x y xs ys Qvu
@[go_sem high] theorem QuD (x y:Y16) (w:World):(binOp .eql 51 (.agg (x.val.map W8).toArray) (.agg (y.val.map W8).toArray)).run Tryz.prog w= .ok (.bool (x.val==y.val)) w:=by
  rw[run_eql_struct,QaS w 0 W8 9998 51 5 16 Tryz.underlying51 Qbo Tryz.underlying5 rfl (QhX _ _ Tryz.underlying5) _ _ x.2 y.2]
  rfl
@[go_sem high] theorem QuF (x y:Y16) (w:World):(binOp .neq 51 (.agg (x.val.map W8).toArray) (.agg (y.val.map W8).toArray)).run Tryz.prog w= .ok (.bool (x.val != y.val)) w:=by
  rw[run_neq_struct,QaS w 0 W8 9998 51 5 16 Tryz.underlying51 Qbo Tryz.underlying5 rfl (QhX _ _ Tryz.underlying5) _ _ x.2 y.2]
  rfl
theorem Qo2:Tryz.prog.built 51 []=some (Qa3.val.map W8).toArray:=by
 show _=some ((Qyl 16 (0:UInt8)).map W8).toArray
 rw[Qy5]
 kernel_rfl
theorem Qcv {P:Program} {t:TypeId} {d:TypeDesc} {k:Nat} {v:Value} (hu:P.underlying t=some d) (hd:Qa8 d=false) {zs:List Value} (hz:zs[k]?=some v) (w:World):(part t zs.toArray k).run P w= .ok v w:=by
 have ha:(isAgg t).run P w= .ok false w:=by
  unfold isAgg
  simp only[Sem.run_bind,run_underlying hu]
  cases d<;>simp_all [Qa8]
 unfold part
 simp[Sem.run_bind,ha,Result.andThen_ok,hz]
theorem Qhj {P:Program} {d k:Nat} {t:TypeId} {f:Field} {fs:List Field} (hf:f.type=t) (hu:P.underlying t=some (.int .u64)) (hn:f.name≠ "_") {xs ys:List Value} {p q:UInt64} (ho:f.offset=k) (hp:xs[k]?=some (W64 p)) (hq:ys[k]?=some (W64 q)) (w:World):
 (Op.eqFields (d+1) xs.toArray ys.toArray (f :: fs)).run P w=if p==q then (Op.eqFields (d+1) xs.toArray ys.toArray fs).run P w else .ok false w:=by
 rw[Op.eqFields,if_pos hn]
 simp only[Sem.run_bind,hf,ho,Qcv hu rfl hp,Qcv hu rfl hq,Result.andThen_ok,Qf8 t _ hu d p q w]
 cases p==q<;>simp
theorem QfI {P:Program} {d k:Nat} {t:TypeId} {f:Field} {fs:List Field} (hf:f.type=t) (hu:P.underlying t=some (.int .u8)) (hn:f.name≠ "_") {xs ys:List Value} {p q:UInt8} (ho:f.offset=k) (hp:xs[k]?=some (W8 p)) (hq:ys[k]?=some (W8 q)) (w:World):
 (Op.eqFields (d+1) xs.toArray ys.toArray (f :: fs)).run P w=if p==q then (Op.eqFields (d+1) xs.toArray ys.toArray fs).run P w else .ok false w:=by
 rw[Op.eqFields,if_pos hn]
 simp only[Sem.run_bind,hf,ho,Qcv hu rfl hp,Qcv hu rfl hq,Result.andThen_ok,QhX t _ hu d p q w]
 cases p==q<;>simp
theorem Qg6 {P:Program} {d k:Nat} {t:TypeId} {f:Field} {fs:List Field} (hf:f.type=t) (hu:P.underlying t=some (.int .u32)) (hn:f.name≠ "_") {xs ys:List Value} {p q:UInt32} (ho:f.offset=k) (hp:xs[k]?=some (W32 p)) (hq:ys[k]?=some (W32 q)) (w:World):
 (Op.eqFields (d+1) xs.toArray ys.toArray (f :: fs)).run P w=if p==q then (Op.eqFields (d+1) xs.toArray ys.toArray fs).run P w else .ok false w:=by
 rw[Op.eqFields,if_pos hn]
 simp only[Sem.run_bind,hf,ho,Qcv hu rfl hp,Qcv hu rfl hq,Result.andThen_ok,Qpe t _ hu d p q w]
 cases p==q<;>simp
def Ql8 (x y:Cmd):Bool:=x.kd==y.kd&&(x.fl==y.fl&&(x.dl==y.dl&&(x.nx==y.nx&&x.ma.val==y.ma.val)))
@[go_sem] theorem QuE (x:Cmd):Ql8 x x=true:=by simp[Ql8]
theorem Qju (x:Cmd):((CC x).drop 4).take 16=x.ma.val.map W8:=by rw[QtQ,QyA (by rw[Qyo,x.ma.2];omega)]
set_option maxRecDepth 100000 in
theorem QgI (x y:Cmd) (w:World) {fs:Array Field} (hu:Tryz.prog.underlying 53=some (.struct fs)):(Op.eqFields 9999 (CC x).toArray (CC y).toArray fs.toList).run Tryz.prog w= .ok (Ql8 x y) w:=by
 rw[Tryz.underlying53]at hu
 cases hu
 rw[QfI (d:=9998) (k:=0) rfl Tryz.underlying5 (by decide) rfl rfl rfl,QfI (d:=9998) (k:=1) rfl Tryz.underlying5 (by decide) rfl rfl rfl,Qg6 (d:=9998) (k:=2) rfl Tryz.underlying50 (by decide) rfl rfl rfl,
  Qhj (d:=9998) (k:=3) rfl Tryz.underlying24 (by decide) rfl rfl rfl,Qcc (d:=9997) (k:=4) rfl Tryz.underlying51 Qkm Qbo Tryz.underlying5 (by decide) rfl (Qju x) (Qju y) x.ma.2 y.ma.2,Qch]
 rw[Ql8]
 cases x.kd==y.kd<;>cases x.fl==y.fl<;>cases x.dl==y.dl<;>cases x.nx==y.nx<;>cases x.ma.val==y.ma.val<;>rfl
theorem Qt1:Tryz.prog.eqGuardType Tryz.prog.depth 53=false:=by kernel_rfl
@[go_sem high] theorem Quc (op:BinOp) (x y:Operand) (xs ys:Array Value) (w:World):(eqGuard op 53 x y (.agg xs) (.agg ys)).run Tryz.prog w= .ok () w:=run_eqGuard_agg w op _ x y xs ys Qt1
set_option maxRecDepth 100000 in
@[go_sem high] theorem Quj (x y:Cmd) (w:World):(binOp .eql 53 (.agg (CC x).toArray) (.agg (CC y).toArray)).run Tryz.prog w= .ok (.bool (Ql8 x y)) w:=by
  rw[QeQ Tryz.underlying53 (by kernel_rfl),QgI x y w Tryz.underlying53]
  rfl
set_option maxRecDepth 100000 in
@[go_sem high] theorem QtJ (x y:Cmd) (w:World):(binOp .neq 53 (.agg (CC x).toArray) (.agg (CC y).toArray)).run Tryz.prog w= .ok (.bool (!Ql8 x y)) w:=by
  rw[Qgk Tryz.underlying53 (by kernel_rfl),QgI x y w Tryz.underlying53]
  rfl
theorem Qe1:(Tryz.prog.info? 53).map (·.size)=some 20:=by kernel_rfl
theorem QuW:(Tryz.prog.info? 53).bind (·.zero)=some (.agg (CC cmd0).toArray):=by kernel_rfl
theorem QsE (x:Cmd):∀u∈CC x,u.oneCell'=true:=by
 intro u hu
 simp only[CC,QyI,Qy1]at hu
 rcases hu with rfl|rfl|rfl|rfl|⟨b,_,rfl⟩<;>rfl
theorem QhM:Tryz.prog.built 53 []=some (CC cmd0).toArray:=by
 rw[QaN (pl:=[(0,1),(1,1),(2,1),(3,1),(4,16)]) Tryz.underlying53 QuW (by kernel_rfl),Qbs]
theorem QmP (k f:UInt8):Tryz.prog.built 53 [(0,W8 k),(1,W8 f)]=some (CC ⟨k,f,0,0,Qa3⟩).toArray:=by
 rw[QaN (pl:=[(0,1),(1,1),(2,1),(3,1),(4,16)]) Tryz.underlying53 QuW (by kernel_rfl),QaH (vs:=[W8 k]) (off:=0) rfl rfl (by rw[Qao];simp),QaH (vs:=[W8 f]) (off:=1) rfl rfl (by rw[Qbr _ _ _ (by rw[Qao];simp),Qao];simp),Qbs]
 rfl
section
variable {ops:Array Oper} {rest:List Oper} {o:Oper} {a:Act} {w:World} {Q:Exit→Act→World→Prop}
theorem Qcl (hgd:o.guard=none) (hd:o.dst=none) (x y:Operand) (ho:o.op= .store 53 x y) {g:Nat} {t:TypeId} {l:List Value} {z:Cmd} (hg:Blk w g t l) (hx:a.eval x= .pointer (some ⟨g,0,none⟩)) (hy:a.eval y= .agg (CC z).toArray) (hl:l.length=20)
 (h:∀w',Blk w' g t (CC z)→Only g w w'→wpList Tryz.prog ops Q rest a w'):wpList Tryz.prog ops Q (o :: rest) a w:=
 Qae hgd hd _ x y ho g t l _ hg hx hy 20 Qe1 (Qao _) hl (QsE _) h
theorem QgX (hw:Region.wanted o (yielded ops a.tmps)=true) (x:Operand) (ho:o.op= .load 53 x) {g:Nat} {t:TypeId} {z:Cmd} (hb:Blk w g t (CC z)) (hx:a.eval x= .pointer (some ⟨g,0,none⟩))
 (h:wpList Tryz.prog ops Q rest (a.put o.dst (.agg (CC z).toArray)) w):wpList Tryz.prog ops Q (o :: rest) a w:=
 Qam hw _ x ho g 0 _ (fun j v hv=>by rw[QyE];exact hb.cellD j hv) hx _ Tryz.underlying53 rfl (by rw[Qao];exact Qe1) h
theorem Quf (hw:Region.wanted o (yielded ops a.tmps)=true) (x:Operand) (ho:o.op= .load 51 x) {g off:Nat} {y:Y16} (hc:∀j v,(y.val.map W8)[j]?=some v→w.cell? ⟨g,off+j,none⟩=some v) (hx:a.eval x= .pointer (some ⟨g,off,none⟩))
 (h:wpList Tryz.prog ops Q rest (a.put o.dst (.agg (y.val.map W8).toArray)) w):wpList Tryz.prog ops Q (o :: rest) a w:=
 Qam hw _ x ho g off _ hc hx _ Tryz.underlying51 rfl (by rw[Qyo,y.2];exact Qkm) h
end
theorem QgT {w:World} {g:Nat} {t:TypeId} {c:Cmd} (h:Blk w g t (CC c)):w.cell? ⟨g,0,none⟩=some (W8 c.kd)∧w.cell? ⟨g,1,none⟩=some (W8 c.fl)∧w.cell? ⟨g,2,none⟩=some (W32 c.dl)∧w.cell? ⟨g,3,none⟩=some (W64 c.nx)∧(∀ j v,(c.ma.val.map W8)[j]?=some v→w.cell? ⟨g,4+j,none⟩=some v):=
 ⟨h.cellD 0 rfl,h.cellD 1 rfl,h.cellD 2 rfl,h.cellD 3 rfl,fun j v hv=>h.cellD _ (by rw[show 4+j=j+1+1+1+1 by omega,CC];exact hv)⟩
set_option maxRecDepth 100000 in
set_option maxHeartbeats 1000000 in
theorem Qnh (c:Cmd) (w:World):Calls Tryz.prog 164 #[.agg (CC c).toArray] w fun e w'=>e= .returned (.bool (Qgb c))∧Later w w':=by
 have hb:Blk (w.alloc (.cells (CC c).toArray 53)) w.heap.size 53 (CC c):=Blk.new _ _ _
 obtain⟨c0,_,_,c3,c4⟩:=QgT hb
 have L:=Qaa w (.cells (CC c).toArray 53)
 have hz:=Qo2
 rw[Qgb,show Qyl 16 (0:UInt8)=Qa3.val from rfl]
 clear hb
 go_enter Tryz.func164,Tryz.ntmps164
 generalize c.kd=kd at *
 generalize c.nx=nx at *
 generalize c.ma=mk at *
 generalize Qa3=z at *
 have hn:(nx != 0)= !(nx==0):=rfl
 rw[hn]
 cases h1:(kd==1)<;>cases h2:(nx==0)<;>cases h4:(kd==4)
 all_goals
  go_wp2_with (first
   | (refine Quf rfl _ rfl c4 rfl ?_)
   | (refine Qah rfl _ _ rfl (z.val.map W8) (by simp only[Qyw,QyD];exact hz) ?_)
   | fail)
  go_ret
  exact⟨rfl,L⟩
set_option maxRecDepth 100000 in
set_option maxHeartbeats 1000000 in
theorem Qnq (c:Cmd) (w:World):Calls Tryz.prog 143 #[.agg (CC c).toArray] w fun e w'=>e= .returned (.int .i64 (cmdE c:Nat))∧Later w w':=by
 have hb:Blk (w.alloc (.cells (CC c).toArray 53)) w.heap.size 53 (CC c):=Blk.new _ _ _
 obtain⟨c0,_,c2,_,_⟩:=QgT hb
 have L:=Qaa w (.cells (CC c).toArray 53)
 have hS:=hid (Qnh c)
 have hE:cmdE c=if c.kd<1∨4<c.kd then 1 else if Qgb c=false then 3 else if 1000000<c.dl then 11 else 0:=rfl
 generalize Qgb c=sh at *
 by_cases h1:c.kd<1
 ·rw[if_pos (.inl h1)]at hE
  rw[hE]
  clear hE
  go_enter Tryz.func143,Tryz.ntmps143
  go_wp2_with fail
  go_ret
  exact⟨rfl,L⟩
 by_cases h4:4<c.kd
 ·rw[if_pos (.inr h4)]at hE
  rw[hE]
  clear hE
  go_enter Tryz.func143,Tryz.ntmps143
  go_wp2_with fail
  go_ret
  exact⟨rfl,L⟩
 rw[if_neg (by rintro (h|h)<;>contradiction)]at hE
 cases sh
 ·rw[if_pos rfl]at hE
  rw[hE]
  clear hE
  go_enter Tryz.func143,Tryz.ntmps143
  go_wp2_with (first
   | (refine QgX rfl _ rfl hb rfl ?_)
   | fail)
  refine (hS.out _).mono ?_
  rintro e w1 ⟨rfl,l1⟩
  go_wp2_with fail
  go_ret
  exact⟨rfl,L.trans l1⟩
 rw[if_neg (by decide)]at hE
 by_cases hd:1000000<c.dl
 ·rw[if_pos hd]at hE
  rw[hE]
  clear hE
  go_enter Tryz.func143,Tryz.ntmps143
  go_wp2_with (first
   | (refine QgX rfl _ rfl hb rfl ?_)
   | fail)
  refine (hS.out _).mono ?_
  rintro e w1 ⟨rfl,l1⟩
  replace c2:=(l1.below.cell (p:=⟨w.heap.size,2,none⟩) hb.lt).trans c2
  go_wp2_with fail
  go_ret
  exact⟨rfl,L.trans l1⟩
 ·rw[if_neg hd]at hE
  rw[hE]
  clear hE
  go_enter Tryz.func143,Tryz.ntmps143
  go_wp2_with (first
   | (refine QgX rfl _ rfl hb rfl ?_)
   | fail)
  refine (hS.out _).mono ?_
  rintro e w1 ⟨rfl,l1⟩
  replace c2:=(l1.below.cell (p:=⟨w.heap.size,2,none⟩) hb.lt).trans c2
  go_wp2_with fail
  go_ret
  exact⟨rfl,L.trans l1⟩
theorem QtC {pre post:List Value} {xs:List UInt8} {off k:Nat} (hp:pre.length=off) (h:k<xs.length) (x:UInt8) (hx:xs[k]?=some x):(pre++xs.map W8++post)[off+k]?=some (W8 x):=by
 rw[QyK,QyC (by omega),show off+k-pre.length=k by omega,QyG (by rw[Qyo];exact h),QyF,hx]
 rfl
theorem Qto {pre post:List Value} {xs:List UInt8} {off k:Nat} (hp:pre.length=off) (h:k<xs.length) (x:UInt8):(pre++xs.map W8++post).set (off+k) (W8 x)=pre++(xs.set k x).map W8++post:=by
 rw[QyK,Qy3 _ _ (by omega),show off+k-pre.length=k by omega,List.set_append_left _ _ (by rw[Qyo];exact h),Qcs,QyK]
set_option maxRecDepth 100000 in
set_option maxHeartbeats 2000000 in
theorem Qk7 (g off n c c2:Nat) (t:TypeId) (A:Option Addr) (pre post:List Value) (xs ys:List UInt8) (w:World) (hb:Blk w g t (pre++xs.map W8++post)) (hp:pre.length=off) (hxl:xs.length=n) (hy:RdB w A n ys) (hoff:0<n→Off A g) (hn:n≤1048576):
 Calls Tryz.prog 167 #[.slice (some ⟨g,off,none⟩) n c,.slice A n c2] w fun e w'=>e= .returned (.tuple #[])∧Blk w' g t (pre++(xorB xs ys).map W8++post)∧Only g w w':=by
 have hyl:=hy.len
 have hlen:xs.length=ys.length:=by omega
 have hX:=hid (fun k=>QfD hlen k)
 have hG:=hid (fun k (h:k<xs.length)=>QjZ hlen h)
 have hS:=hid (fun k (h:k<xs.length)=>Qh5 hlen h)
 have hA:=hid (QjK hlen)
 have hN:=hid (QhK xs ys)
 go_enter Tryz.func167,Tryz.ntmps167
 go_wp2_with fail
 go_loopw [8] (fun i wr=>∃k:Nat,k≤n∧i= .int .i64 k∧Blk wr g t (pre++(QeW xs ys k).map W8++post)∧Only g w wr) (fun i _=>n-(intOf i).toNat)
 case atStart=>exact⟨0,by omega,rfl,by rw[hN.out];exact hb,World.grownBy.refl w _⟩
 case round=>
  clear hb
  obtain⟨k,hk,rfl,hb,ho'⟩:=hrel
  by_cases hlt:k<n
  ·have hy':RdB wr A n ys:=Rd.only hy ho' (fun b o e h=>hoff (by omega) _ e h)
   obtain⟨b2,o2,rfl,hb2,hc2⟩:=RdB.at_ hy' (by omega)
   have c1:=hc2 k hlt
   have hxk:=hX.out k (by omega)
   have d1:=hb.cellD (off+k) (QtC hp (by omega) _ (hG.out k (by omega)))
   have HS:=hid (hS.out k (by omega))
   clear hc2
   generalize xs.getD k 0=x at *
   generalize ys.getD k 0=y at *
   go_wp2_with (first
    | (refine Qag rfl rfl _ _ _ rfl g (off+k) _ _ hb rfl (by simp only[Qyz,Qyo];omega) rfl Qbo ?_;intro v' w5 hv' hb5 ho5;simp[go_sem]at hv';subst hv')
    | fail)
   rw[Qto hp (by omega),HS.out]at hb5
   go_roundw
   case rel=>exact⟨k+1,by omega,by go_num,hb5,ho'.trans ho5⟩
   case measure=>simp[intOf];omega
  ·obtain rfl:n=k:=by omega
   rw[←hxl,hA.out]at hb
   go_wp2_with fail
   exact bodyPost_end (results_none rfl _ _ _) rfl ⟨rfl,hb,ho'⟩
theorem QrL (g off n c c2:Nat) (t:TypeId) (A:Option Addr) (bs ys:List UInt8) (rest:List Value) (w:World) (hb:Blk w g t (bs.map W8++rest)) (hbl:bs.length=n) (h32:32≤n) (hoff:off=32∨(off=0∧n=32)) (hy:RdB w A (n-32) ys) (hA:0<n-32→Off A g) (hn:n≤1048576):
 Calls Tryz.prog 167 #[.slice (some ⟨g,off,none⟩) (n-32) c,.slice A (n-32) c2] w fun e w'=>e= .returned (.tuple #[])∧Blk w' g t ((bs.take 32++xorB (bs.drop 32) ys).map W8++rest)∧Only g w w':=by
 have e0:bs.map W8++rest=(bs.take 32).map W8++(bs.drop 32).map W8++rest:=by rw[←QyZ,Qy9]
 rcases hoff with rfl|⟨rfl,rfl⟩
 ·rw[e0]at hb
  refine (Qk7 g 32 (n-32) c c2 t A _ rest (bs.drop 32) ys w hb (by rw[Qyo,QyW];omega) (by rw[QyQ];omega) hy hA (by omega)).mono ?_
  rintro e w' ⟨he,hb',ho⟩
  exact⟨he,by rw[QyZ];exact hb',ho⟩
 ·have hd:bs.drop 32=[]:=Qy4 (by rw[QyQ];omega)
  have hyn:ys=[]:=Qy4 hy.len
  refine (Qk7 g 0 0 c c2 t A [] (bs.map W8++rest) [] ys w hb rfl rfl hy hA (by omega)).mono ?_
  rintro e w' ⟨he,hb',ho⟩
  refine⟨he,?_,ho⟩
  subst hyn
  rw[hd,show xorB [] []=[] from rfl,QyT,QyA (by omega)]
  exact hb'
def Qfi (K:List UInt8) (r:Nat) (bs:List UInt8):List UInt8:=
 if r=2∨r=4 then xorB (bs.take 32) (Qbk K (bs.drop 32))++bs.drop 32 else bs.take 32++xorB (bs.drop 32) (chaS (xorB K (bs.take 32)) (bs.length-32))
theorem Qjp (K:List UInt8) (r:Nat) (bs:List UInt8) (h:32≤bs.length):(Qfi K r bs).length=bs.length:=by
 unfold Qfi
 split
 ·rw[Qyz,Qbg (by rw[QaI,QyW];omega),QaI,QyQ]
  omega
 ·rw[Qyz,Qbg (by rw[Qb8,QyQ]),Qb8,QyW]
  omega
theorem QpA:(Tryz.prog.info? 45).map (·.size)=some 32:=by kernel_rfl
theorem Qib {w:World} {g:Nat} {t:TypeId} {bs:List UInt8} {n:Nat} (h:Blk w g t (bs.map W8)) (hn:bs.length=n):RdB w (some ⟨g,0,none⟩) n bs:=h.rd (by rw[Qyo,hn])
set_option maxRecDepth 100000 in
set_option maxHeartbeats 4000000 in
theorem QrA (g n c:Nat) (K bs:List UInt8) (r:Nat) (rest:List Value) (w:World) (hb:Blk w g 5 (bs.map W8++rest)) (hbl:bs.length=n) (h32:32≤n) (hn:n≤4096) (hc:n≤c) (hK:K.length=32) (h1:1≤r) (h4:r≤4):
 Calls Tryz.prog 145 #[.slice (some ⟨g,0,none⟩) n c,.agg (K.map W8).toArray,.int .i64 r] w fun e w'=>e= .returned (.tuple #[])∧Blk w' g 5 ((Qfi K r bs).map W8++rest)∧Only g w w':=by
 have hcl:∀W,(Instr.sliceAt 25 (.slice (some ⟨g,0,none⟩) n c) none (some (.int .i64 32)) none).run Tryz.prog W= .ok (.slice (some ⟨g,0,none⟩) 32 c) W:=fun W=>QnE (some ⟨g,0,none⟩) n c .i64 32 (by omega) W
 obtain⟨off,hoff,hcr⟩:∃off,(off=32∨(off=0∧n=32))∧∀W,(Instr.sliceAt 25 (.slice (some ⟨g,0,none⟩) n c) (some (.int .i64 32)) none none).run Tryz.prog W= .ok (.slice (some ⟨g,off,none⟩) (n-32) (c-32)) W:=by
  have h:=fun W=>QjH (some ⟨g,0,none⟩) n c .i64 32 h32 W
  unfold cutA at h
  by_cases hc32:c=32
  ·rw[if_pos hc32]at h
   exact⟨0,.inr ⟨rfl,by omega⟩,h⟩
  ·rw[if_neg hc32]at h
   exact⟨32,.inl rfl,h⟩
 have hrdR:∀w',Blk w' g 5 (bs.map W8++rest)→RdB w' (some ⟨g,off,none⟩) (n-32) (bs.drop 32):=fun w' hb'=>by
  rcases hoff with rfl|⟨rfl,rfl⟩
  ·have:=(QcU hb' hbl).cut (k:=32) (c:=n+33) h32 (by omega)
   rw[cutA,if_neg (by omega)]at this
   exact this
  ·rw[Qy4 (show (bs.drop 32).length=0 by rw[QyQ];omega)]
   exact⟨rfl,fun h=>absurd h (by omega)⟩
 have hrdR:=hid hrdR
 have hm1:=hid (fun g off n c c2 t A pre post xs ys w hb hp hxl hy ho hn=>Qk7 g off n c c2 t A pre post xs ys w hb hp hxl hy ho hn)
 have hm2:=hid (fun c c2 A ys w hb hy hA=>QrL g off n c c2 5 A bs ys rest w hb hbl h32 hoff hy hA (by omega))
 replace hoff:=hid hoff
 have htl:(bs.take 32).length=32:=by rw[QyW];omega
 have hdl:(bs.drop 32).length=n-32:=by rw[QyQ];omega
 by_cases hr:r=2∨r=4
 ·have hT:=hid (show Qfi K r bs=xorB (bs.take 32) (Qbk K (bs.drop 32))++bs.drop 32 by rw[Qfi,if_pos hr])
  have hG:=QaI K (bs.drop 32)
  have hTag:=hid (fun A B c d w h1 hc h2=>Qix A B 32 c 1 d K [bs.drop 32] w h1 hc (by omega) h2 (by omega) (by rw[Qbv,hdl];omega))
  rw[Qbv]at hTag
  generalize Qfi K r bs=TB at *
  generalize Qbk K (bs.drop 32)=G at *
  rcases hr with rfl|rfl
  all_goals
   go_enter Tryz.func145,Tryz.ntmps145
   go_wp2_with fail
   have B1:=Qbh w 45 (K.map W8)
   generalize w.alloc (.cells (K.map W8).toArray 45)=w1 at *
   refine Qad [] [0,1,2,3,4,5] [] (by as_aux_lemma=>kernel_rfl) (by as_aux_lemma=>kernel_rfl) (by intro _ _ d _ _ h;cases d<;>exact h) ?_
   simp only[Qaj,pick,Qym,Qyn,Qyp,Qys,Qyr]
   repeat (go_big_quiet_step (fail))
   refine wpQuiet_nil ?_
   go_wp2_with fail
   have B2:=B1.later ((Qaa w1 (.cells #[.slice (some ⟨g,off,none⟩) (n-32) (c-32)] 25)).trans (Qab _))
   have hb2:=hb.later B2.lat
   have hpp:=Qhw (Blk.new w1 25 [.slice (some ⟨g,off,none⟩) (n-32) (c-32)]).drew (Qc9 (c:=c-32) (hrdR.out _ hb2) (by omega))
   (with_reducible refine (hTag.out _ _ _ _ _ (Qib (B2.nth 0 rfl) hK) (Qyv _) hpp).mono ?_);rintro e w3 ⟨rfl,j3⟩
   go_wp2_with (first
    | (refine QgY 32 rfl rfl _ _ rfl (Blk.new w3 _ (Qyl 32 (.int .u8 0))) rfl rfl QpA hG rfl ?_;intro w4 hb4 ho4)
    | fail)
   have L4:=B2.lat.trans ((j3.trans (Qaa w3 _)).only ho4 j3.size)
   have hb5:=hb.later L4
   rw[show bs.map W8++rest=[]++(bs.take 32).map W8++((bs.drop 32).map W8++rest) by rw[Qyr,←QyK,←QyZ,Qy9]]at hb5
   have hgl:=hb.lt
   have hgs:=(B2.lat.trans j3).size
   (refine (hm1.out g 0 32 _ _ _ _ _ _ _ _ _ hb5 rfl htl (Qib hb4 hG) (fun _ ad e=>by cases e;show w3.heap.size≠g;omega) (by omega)).mono ?_);rintro e w5 ⟨rfl,hb6,ho6⟩
   rw[Qyr,←QyK,←QyZ,←hT.out]at hb6
   go_wp2_with fail
   (try simp only[Exit.inBlock,Exit.then])
   exact bodyPost_ret (results_none rfl _ _ _) rfl ⟨rfl,hb6,L4.thenOnly ho6⟩
 ·have hT:=hid (show Qfi K r bs=bs.take 32++xorB (bs.drop 32) (chaS (xorB K (bs.take 32)) (n-32)) by rw[Qfi,if_neg hr,hbl])
  have hr':r=1∨r=3:=by omega
  clear hr
  have hxl:(xorB K (bs.take 32)).length=32:=by rw[Qbg (by omega),htl]
  have hSt:=hid (fun A c w h=>Qne A c (n-32) (xorB K (bs.take 32)) w h (by omega))
  generalize Qfi K r bs=TB at *
  generalize hXe:xorB K (bs.take 32)=X at *
  replace hXe:=hid hXe
  generalize chaS X (n-32)=ST at *
  rcases hr' with rfl|rfl
  all_goals
   go_enter Tryz.func145,Tryz.ntmps145
   go_wp2_with fail
   have B1:=(Qbh w 45 (K.map W8)).drew
   generalize w.alloc (.cells (K.map W8).toArray 45)=w1 at *
   refine Qad [] [0,1,2,3,4,5] [] (by as_aux_lemma=>kernel_rfl) (by as_aux_lemma=>kernel_rfl) (by intro _ _ d _ _ h;cases d<;>exact h) ?_
   simp only[Qaj,pick,Qym,Qyn,Qyp,Qys,Qyr]
   repeat (go_big_quiet_step (fail))
   refine wpQuiet_nil ?_
   go_wp2_with fail
   have hb1:=hb.later B1.lat
   have hgl:=hb.lt
   have hk1:=B1.nth 0 rfl
   (refine (hm1.out w.heap.size 0 32 _ _ _ _ [] [] K (bs.take 32) _ (by rw[Qyr,QyT];exact hk1) rfl hK ((QcU hb1 hbl).take h32) (fun _ ad e=>by cases e;show g≠w.heap.size;omega) (by omega)).mono ?_);rintro e w5 ⟨rfl,hk2,ho2⟩
   rw[Qyr,QyT,hXe.out]at hk2
   have B2:=B1.write 0 rfl ho2 hk2
   have hb2:=hb.later B2.lat
   go_wp2_with fail
   (refine (hSt.out _ _ _ (Qib hk2 hxl)).mono ?_);rintro e w6 ⟨A6,c6,rfl,hown6,j6⟩
   go_wp2_with fail
   have hgs:=B2.lat.size
   (refine (hm2.out _ _ _ ST _ (hb2.later j6) hown6.rd (fun _ ad e=>by subst e;have:=(hown6.lt ad.block rfl).1;omega)).mono ?_);rintro e w7 ⟨rfl,hb7,ho7⟩
   rw[←hT.out]at hb7
   go_wp2_with fail
   exact bodyPost_end (results_none rfl _ _ _) rfl ⟨rfl,hb7,(B2.lat.trans j6).thenOnly ho7⟩
abbrev lab1:ByteArray:=⟨#[119,105,100,101,49]⟩
abbrev lab2:ByteArray:=⟨#[119,105,100,101,50]⟩
abbrev lab3:ByteArray:=⟨#[119,105,100,101,51]⟩
abbrev lab4:ByteArray:=⟨#[119,105,100,101,52]⟩
def labW (r:Int):ByteArray:=if r=1 then lab1 else if r=2 then lab2 else if r=3 then lab3 else lab4
def okR (rs:List Int):Prop:=∀r∈rs,1≤r∧r≤4
instance (rs:List Int):Decidable (okR rs):=by unfold okR;infer_instance
def fitW (key bs:List UInt8):Prop:=key.length=32∧32≤bs.length∧bs.length≤4096
instance (key bs:List UInt8):Decidable (fitW key bs):=by unfold fitW;infer_instance
def Qfx (key:List UInt8) (rs:List Int) (bs:List UInt8):List UInt8:=rs.foldl (fun b r=>Qfi (derB key (labW r)) r.toNat b) bs
theorem QcP (key:List UInt8):∀(rs:List Int) (bs:List UInt8),32≤bs.length→(Qfx key rs bs).length=bs.length
 | [],_,_=>rfl
 | r :: rs,bs,h=>by
   show (Qfx key rs (Qfi _ _ bs)).length=_
   have:=Qjp (derB key (labW r)) r.toNat bs h
   rw[QcP key rs _ (by omega),this]
theorem QiY (key:List UInt8) (rs rs':List Int) (bs:List UInt8):Qfx key (rs++rs') bs=Qfx key rs' (Qfx key rs bs):=by rw[Qfx,List.foldl_append];rfl
def Qg7 (key bs:List UInt8) (rs:List Int):Nat:=if okR rs then (if fitW key bs then 0 else 2) else 1
def Qeb (key bs:List UInt8) (rs:List Int):List UInt8:=if okR rs then (if fitW key bs then Qfx key rs bs else []) else []
theorem QiE (B:Option Addr) (m d:Nat) (w:World):
 Calls Tryz.prog 165 #[.slice B m d] w fun e w'=>e= .returned (.bool (decide (32≤m∧m≤4096)))∧w'=w:=by
 by_cases h1:32≤m
 ·by_cases h2:m≤4096
  ·have e1:(32:Int)≤(m:Int):=by omega
   have e2:(m:Int)≤4096:=by omega
   rw[decide_eq_true (show 32≤m∧m≤4096 from ⟨h1,h2⟩)]
   go_enter Tryz.func165,Tryz.ntmps165
   go_wp2
   go_ret
   exact⟨rfl,rfl⟩
  ·have e1:(32:Int)≤(m:Int):=by omega
   have e2: ¬(m:Int)≤4096:=by omega
   rw[decide_eq_false (show ¬(32≤m∧m≤4096) from fun h=>h2 h.2)]
   go_enter Tryz.func165,Tryz.ntmps165
   go_wp2
   go_ret
   exact⟨rfl,rfl⟩
 ·have e1: ¬(32:Int)≤(m:Int):=by omega
  rw[decide_eq_false (show ¬(32≤m∧m≤4096) from fun h=>h1 h.1)]
  go_enter Tryz.func165,Tryz.ntmps165
  go_wp2
  go_ret
  exact⟨rfl,rfl⟩
theorem QpR (A B:Option Addr) (n c m d:Nat) (w:World):
 Calls Tryz.prog 144 #[.slice A n c,.slice B m d] w fun e w'=>e= .returned (.bool (decide (n=32∧32≤m∧m≤4096)))∧w'=w:=by
 have hf:=hid (QiE B m d)
 by_cases h0:n=32
 ·subst h0
  rw[show decide (32=32∧32≤m∧m≤4096)=decide (32≤m∧m≤4096) by simp]
  go_enter Tryz.func144,Tryz.ntmps144
  go_wp2_with fail
  (with_reducible refine (hf.out _).mono ?_);rintro e w1 ⟨rfl,rfl⟩
  go_wp2_with fail
  go_ret
  exact⟨by simp,rfl⟩
 ·have e1:((n:Int)==32)=false:=by simp;omega
  rw[decide_eq_false (show ¬(n=32∧32≤m∧m≤4096) from fun h=>h0 h.1)]
  go_enter Tryz.func144,Tryz.ntmps144
  go_wp2_with fail
  go_ret
  exact⟨by simp,rfl⟩
theorem QnG {key bs:List UInt8} {rs:List Int} (h: ¬okR rs):Qeb key bs rs=[]:=by rw[Qeb,if_neg h]
theorem Qoa {key bs:List UInt8} {rs:List Int} (h: ¬okR rs):Qg7 key bs rs=1:=by rw[Qg7,if_neg h]
theorem Qk4 {key bs:List UInt8} {rs:List Int} (h:okR rs) (h2: ¬fitW key bs):Qeb key bs rs=[]:=by rw[Qeb,if_pos h,if_neg h2]
theorem Qlb {key bs:List UInt8} {rs:List Int} (h:okR rs) (h2: ¬fitW key bs):Qg7 key bs rs=2:=by rw[Qg7,if_pos h,if_neg h2]
theorem Qf2 {key bs:List UInt8} {rs:List Int} (h:okR rs) (h2:fitW key bs):Qeb key bs rs=Qfx key rs bs:=by rw[Qeb,if_pos h,if_pos h2]
theorem Qjq {key bs:List UInt8} {rs:List Int} (h:okR rs) (h2:fitW key bs):Qg7 key bs rs=0:=by rw[Qg7,if_pos h,if_pos h2]
def intV (r:Int):Value:=.int .i64 r
theorem QvZ {w:World} {C:Option Addr} {k:Nat} {rs:List Int} (h:Rd w C k (rs.map intV)) {j:Nat} (hj:j<k):∃b o,C=some ⟨b,o,none⟩∧b<w.heap.size∧∀w',Later w w'→w'.cell? ⟨b,o+j,none⟩=some (.int .i64 (rs.getD j 0)):=by
 have hl:rs.length=k:=by have:=h.1;rwa [Qyo]at this
 obtain⟨b,o,e,hb,hc⟩:=h.2 (by omega)
 refine⟨b,o,e,hb,fun w' hl'=>(hl'.below.cell (p:=⟨b,o+j,none⟩) hb).trans (hc j _ ?_)⟩
 rw[QyF,Qyq (show j<rs.length by omega),Qyt,Qyq (show j<rs.length by omega)]
 rfl
theorem QmS (key:List UInt8) (rs:List Int) (bs:List UInt8) (j:Nat) (h:j<rs.length):Qfx key (rs.take (j+1)) bs=Qfi (derB key (labW (rs.getD j 0))) (rs.getD j 0).toNat (Qfx key (rs.take j) bs):=by
 rw[QyR h,QiY,Qyt,Qyq h]
 rfl
def Qnm (s:List UInt8):List UInt8:=Qco s [lab1,lab2,lab3,lab4] 4
theorem QoX (s:List UInt8) (r:Int) (h1:1≤r) (h4:r≤4):(Qnm s).drop ((r.toNat-1)*32)=derB s (labW r)++((Qnm s).drop ((r.toNat-1)*32)).drop 32:=by
 have l1:=QaW s lab1
 have l2:=QaW s lab2
 have l3:=QaW s lab3
 have l4:=QaW s lab4
 have e:Qnm s=derB s lab1++(derB s lab2++(derB s lab3++derB s lab4)):=by simp[Qnm,Qco]
 have hr:r=1∨r=2∨r=3∨r=4:=by omega
 rw[e]
 generalize hd1:derB s lab1=d1 at *
 generalize hd2:derB s lab2=d2 at *
 generalize hd3:derB s lab3=d3 at *
 generalize hd4:derB s lab4=d4 at *
 rcases hr with rfl|rfl|rfl|rfl
 ·show (d1++_).drop 0=derB s lab1++((d1++_).drop 0).drop 32
  rw[hd1,List.drop_zero,Qzh l1]
 ·show (d1++_).drop 32=derB s lab2++((d1++_).drop 32).drop 32
  rw[hd2,Qzh l1,Qzh l2]
 ·show (d1++_).drop 64=derB s lab3++((d1++_).drop 64).drop 32
  rw[hd3,show (64:Nat)=32+32 from rfl,←QAc,Qzh l1,Qzh l2,Qzh l3]
 ·show (d1++_).drop 96=derB s lab4++((d1++_).drop 96).drop 32
  rw[hd4,show (96:Nat)=32+(32+32) from rfl,←QAc,←QAc,Qzh l1,Qzh l2,Qzh l3]
  have:d4.drop 32=[]:=QzV (by omega)
  rw[this,QyT]
theorem Qrx {w:World} {base n c:Nat} {A:Option Addr} {bs:List UInt8} (h:OwnB w base A n c bs):c≤maxLen:=by
 rcases h.2 with ⟨hv,_⟩|⟨g2,cap,cur,hv,_,_,_,hm,_⟩
 ·cases hv
  exact QAa _
 ·cases hv
  exact hm
theorem Qs2 (g n c:Nat) (K bs:List UInt8) (r:Nat) (i:Int) (hi:i=(r:Int)) (rest:List Value) (w:World) (hb:Blk w g 5 (bs.map W8++rest)) (hbl:bs.length=n) (h32:32≤n) (hn:n≤4096) (hc:n≤c) (hK:K.length=32) (h1:1≤r) (h4:r≤4):
 Calls Tryz.prog 145 #[.slice (some ⟨g,0,none⟩) n c,.agg (K.map W8).toArray,.int .i64 i] w fun e w'=>e= .returned (.tuple #[])∧Blk w' g 5 ((Qfi K r bs).map W8++rest)∧Only g w w':=by
 subst hi
 exact QrA g n c K bs r rest w hb hbl h32 hn hc hK h1 h4
theorem Qrm {w:World} {g:Nat} {t:TypeId} {ks:List UInt8} (h:Blk w g t (ks.map W8)) {q:Nat} {K r:List UInt8} (hd:ks.drop (q*32)=K++r) {j:Nat} {v:Value} (hv:(K.map W8)[j]?=some v):w.cell? ⟨g,q*32+j,none⟩=some v:=by
 refine h.cellD _ ?_
 rw[QyF,Option.map_eq_some_iff]at hv ⊢
 obtain⟨x,hx,rfl⟩:=hv
 refine⟨x,?_,rfl⟩
 rw[←QzP,hd,QyG (QyB.1 hx).1]
 exact hx
set_option maxRecDepth 100000 in
set_option maxHeartbeats 8000000 in
theorem Qla (A B C:Option Addr) (n c m d k e0:Nat) (key bs:List UInt8) (rs:List Int) (w:World) (hk:RdB w A n key) (hc:n≤c) (hb:RdB w B m bs) (hd:m≤d) (hr:Rd w C k (rs.map intV)) (hn:n≤2097152) (hm:m≤2097152) (hk2:k≤2097152):
 Calls Tryz.prog 121 #[.slice A n c,.slice B m d,.slice C k e0] w fun e w'=>Later w w'∧∃A' c',e= .returned (.tuple #[.slice A' (Qeb key bs rs).length c',.int .i64 (Qg7 key bs rs:Nat)])∧OwnB w' w.heap.size A' (Qeb key bs rs).length c' (Qeb key bs rs):=by
 have hkl:=hk.len
 have hbl:=hb.len
 have hrl:rs.length=k:=by have:=hr.1;rwa [Qyo]at this
 have hbad:=hid (fun h=>And.intro (@QnG key bs rs h) (@Qoa key bs rs h))
 have hunf:=hid (fun h h2=>And.intro (@Qk4 key bs rs h h2) (@Qlb key bs rs h h2))
 have hfit:=hid (fun h h2=>And.intro (@Qf2 key bs rs h h2) (@Qjq key bs rs h h2))
 have hat:=hid (fun j (hj:j<k)=>QvZ hr hj)
 have hff:=hid (QpR A B n c m d)
 generalize Qeb key bs rs=WB at *
 generalize Qg7 key bs rs=WE at *
 go_enter Tryz.func121,Tryz.ntmps121
 go_wp2_with fail
 go_loopw [16] (fun i wr=>∃j:Nat,j≤k∧i= .int .i64 j∧wr=w∧Hid (∀ t,t<j→1≤rs.getD t 0∧rs.getD t 0≤4)) (fun i _=>k-(intOf i).toNat)
 case atStart=>exact⟨0,by omega,rfl,rfl,hid (fun t h=>by omega)⟩
 case round=>
  obtain⟨j,hj,rfl,rfl,hall⟩:=hrel
  by_cases hlt:j<k
  ·obtain⟨b,o,rfl,hbb,hcell⟩:=hat.out j hlt
   have c1:=hcell wr (Later.refl _)
   clear hcell
   have hmem:rs.getD j 0∈rs:=by rw[Qyt,Qyq (show j<rs.length by omega)];exact Qzk _
   have hbd: ¬(1≤rs.getD j 0∧rs.getD j 0≤4)→Hid (WB=[]∧WE=1):=fun h=>hid (hbad.out (fun hok=>h (hok _ hmem)))
   have hst:1≤rs.getD j 0→rs.getD j 0≤4→Hid (∀ t,t<j+1→1≤rs.getD t 0∧rs.getD t 0≤4):=fun h1 h2=>hid (fun t ht=>by
    by_cases e:t=j
    ·subst e;exact⟨h1,h2⟩
    ·exact hall.out t (by omega))
   clear hmem
   generalize rs.getD j 0=r at *
   by_cases h1:r<1
   ·have hB:=hbd (by omega)
    clear hbd hst
    go_wp2_with fail
    go_ret2
    refine⟨Later.refl _,none,0,?_,?_⟩
    ·rw[hB.out.1,hB.out.2];rfl
    ·rw[hB.out.1];exact QaZ _ _ _
   ·by_cases h2:4<r
    ·have hB:=hbd (by omega)
     clear hbd hst
     go_wp2_with fail
     go_ret2
     refine⟨Later.refl _,none,0,?_,?_⟩
     ·rw[hB.out.1,hB.out.2];rfl
     ·rw[hB.out.1];exact QaZ _ _ _
    ·have hS:=hst (by omega) (by omega)
     clear hbd hst
     go_wp2_with fail
     go_roundw
     case rel=>exact⟨j+1,by omega,by go_num,trivial,hS⟩
     case measure=>simp[intOf];omega
  ·obtain rfl:k=j:=by omega
   have hok:okR rs:=fun r hr'=>by
    obtain⟨t,ht⟩:=List.getElem?_of_mem hr'
    have htl:=(QyB.1 ht).1
    have:=hall.out t (by omega)
    rwa [Qyt,ht]at this
   clear hbad
   go_wp2_with fail
   (with_reducible refine (hff.out _).mono ?_);rintro e w1 ⟨rfl,rfl⟩
   by_cases hf:n=32∧32≤m∧m≤4096
   ·rw[decide_eq_true hf]
    have hF:=hid (hfit.out hok ⟨by rw[hkl];exact hf.1,by rw[hbl];exact hf.2⟩)
    obtain⟨rfl,hm32,hm4⟩:=hf
    clear hunf hfit
    have hDe:=hid (fun B d w h1 h2=>Qhp A B 32 c 4 d key [lab1,lab2,lab3,lab4] w h1 hc (by omega) h2 (by omega) (by omega) (by intro x hx;simp only[QyI,QyN,or_false]at hx;rcases hx with rfl|rfl|rfl|rfl<;>decide))
    have hKW:=hid (fun r h1 h4=>QoX key r h1 h4)
    have hFt:=hid (fun j h=>QmS key rs bs j h)
    have hFl:=hid (fun rs=>QcP key rs bs (by omega))
    have hDl:=hid (fun r=>QaW key (labW r))
    have hTu:=hid Qs2
    have hCj:=hid (fun A c w h=>QeK A 1 c [bs] w h (by omega) (by rw[Qbv];omega))
    rw[Qbv,hbl]at hCj
    rw[show Qco key [lab1,lab2,lab3,lab4] 4=Qnm key from rfl]at hDe
    have hF0:=hid (show Qfx key (rs.take 0) bs=bs from rfl)
    go_wp2_with fail
    have J1:=Qaa w1 (.cells #[.string lab1,.string lab2,.string lab3,.string lab4] 9)
    have hst:Strs (w1.alloc (.cells #[.string lab1,.string lab2,.string lab3,.string lab4] 9)) (some ⟨w1.heap.size,0,none⟩) 4 [lab1,lab2,lab3,lab4]:=(Blk.new w1 9 [.string lab1,.string lab2,.string lab3,.string lab4]).rd rfl
    (refine (hDe.out _ _ _ (hk.later J1) hst).mono ?_);rintro e w2 ⟨gK,rfl,hgK,hbK,j2⟩
    go_wp2_with fail
    have J2:=(J1.trans j2).trans (Qaa w2 (.cells #[.slice B m d] 25))
    have hpp:=Qhw (Blk.new w2 25 [.slice B m d]) (Qc9 (hb.later J2) hd)
    (with_reducible refine (hCj.out _ _ _ hpp).mono ?_);rintro e w3 ⟨A3,c3,rfl,hown3,j3⟩
    have L3:=J2.trans j3
    have hbK3:=hbK.later ((Qaa w2 (.cells #[.slice B m d] 25)).trans j3)
    have hgKw:w1.heap.size≤gK:=QyX J1.size hgK
    replace hown3:=hown3.mono J2.size
    have hmx:=Qrx hown3
    obtain⟨gO,rest,rfl,hgO,hbO,hcO,hcc⟩:=Qif hown3 (by omega)
    replace hcO:=hid hcO
    clear J1 hst j2 J2 hpp j3 hown3 hbK hgK
    go_wp2_with fail
    have hgl:=hbO.lt
    go_loopw [39] (fun i wr=>∃j:Nat,j≤k∧i= .int .i64 j∧Blk wr gO 5 ((Qfx key (rs.take j) bs).map W8++rest)∧Blk wr gK 45 ((Qnm key).map W8)∧Later w1 wr) (fun i _=>k-(intOf i).toNat)
    case atStart=>exact⟨0,by omega,rfl,by rw[hF0.out];exact hbO,hbK3,L3⟩
    case round=>
     clear hbO hbK3 L3 hgl
     obtain⟨j,hj,rfl,hbO,hbK,L⟩:=hrel
     by_cases hlt:j<k
     ·obtain⟨b,o,rfl,hbb,hcell⟩:=hat.out j hlt
      have c1:=hcell wr L
      have hrr:=hall.out j hlt
      have HF:=hid (hFt.out j (by omega))
      have hFlj:=hFl.out (rs.take j)
      have hKr:=hKW.out _ hrr.1 hrr.2
      have hDlr:=hDl.out (rs.getD j 0)
      clear hcell
      generalize rs.getD j 0=r at *
      obtain⟨q,rfl⟩:∃q:Nat,r=(q:Int)+1:=⟨(r-1).toNat,by omega⟩
      have hq4:q<4:=by omega
      have hqn:((q:Int)+1).toNat=q+1:=by omega
      rw[hqn]at HF hKr
      rw[Nat.add_sub_cancel]at hKr
      generalize derB key (labW ((q:Int)+1))=Kr at *
      generalize Qfx key (rs.take j) bs=F at *
      replace hKr:=hid hKr
      clear hqn hrr
      go_wp2_with (first
       | (refine Qau rfl 45 _ rfl gK (q*32) (Kr.map W8) ?hc ?hx _ Tryz.underlying45 rfl ?hi ?_;(case hx=>rfl);(case hi=>rw[Qyo,hDlr];exact QpA);(case hc=>intro j v hv;exact Qrm hbK hKr.out hv))
       | fail)
      (refine (hTu.out gO m c3 Kr F (q+1) _ (by omega) rest _ hbO (by omega) hm32 hm4 hcc hDlr (by omega) (by omega)).mono ?_);rintro e w5 ⟨rfl,hb5,ho5⟩
      go_wp2_with fail
      go_roundw
      case rel=>exact⟨j+1,by omega,by go_num,by rw[HF.out];exact hb5,hbK.only ho5 (hbK.ne_type hbO (by decide)),L.only ho5 hgO⟩
      case measure=>simp[intOf];omega
     ·obtain rfl:k=j:=by omega
      rw[QyA (by omega)]at hbO
      have hFl':=hFl.out rs
      rw[←hF.out.1]at hbO hFl'
      have hcw:c3=(WB.map W8++rest).length:=by
       rw[hcO.out,Qyz,Qyz,Qyo,Qyo]
       omega
      have hWl:WB.length=m:=by omega
      have hWE:=hF.out.2
      have hown:=QsI hbO hgO (by rw[←hcw];exact hmx)
      rw[←hcw,Qyo,hWl]at hown
      go_wp2_with fail
      go_ret2
      exact⟨L,_,_,by rw[hWl,hWE];rfl,by rw[hWl];exact hown⟩
   ·rw[decide_eq_false hf]
    have hB:=hid (hunf.out hok (fun h=>hf ⟨by rw[←hkl];exact h.1,by rw[←hbl];exact h.2⟩))
    clear hunf hfit
    go_wp2_with fail
    go_ret2
    refine⟨Later.refl _,none,0,?_,?_⟩
    ·rw[hB.out.1,hB.out.2];rfl
    ·rw[hB.out.1];exact QaZ _ _ _
def rsO:List Int:=[4,3,2,1]
theorem okO:okR rsO:=by decide
set_option maxHeartbeats 1000000 in
theorem Qpj (A B:Option Addr) (n c m d:Nat) (key bs:List UInt8) (w:World) (hk:RdB w A n key) (hc:n≤c) (hb:RdB w B m bs) (hd:m≤d) (hn:n≤2097152) (hm:m≤2097152):
 Calls Tryz.prog 90 #[.slice A n c,.slice B m d] w fun e w'=>Later w w'∧∃A' c',e= .returned (.tuple #[.slice A' (Qeb key bs rsO).length c',.int .i64 (Qg7 key bs rsO:Nat)])∧OwnB w' w.heap.size A' (Qeb key bs rsO).length c' (Qeb key bs rsO):=by
 have h:=hid (fun C e0 w hk hb hr=>Qla A B C n c m d 4 e0 key bs rsO w hk hc hb hd hr hn hm (by omega))
 generalize Qeb key bs rsO=X at *
 generalize Qg7 key bs rsO=E at *
 go_enter Tryz.func90,Tryz.ntmps90
 go_wp2_with fail
 have J:=Qaa w (.cells #[.int .i64 4,.int .i64 3,.int .i64 2,.int .i64 1] 3)
 (refine (h.out _ _ _ (hk.later J) (hb.later J) ((Blk.new w 3 [.int .i64 4,.int .i64 3,.int .i64 2,.int .i64 1]).rd rfl)).mono ?_);rintro e w1 ⟨j1,A1,c1,rfl,ho1⟩
 go_wp2_with fail
 go_ret2
 exact⟨J.trans j1,A1,c1,rfl,ho1.mono J.size⟩
def FC (key:List UInt8) (n:Nat):List Value:=key.map W8++[.int .i64 (n:Int)]
theorem QnY {key:List UInt8} (h:key.length=32) (n:Nat):(FC key n).length=33:=by simp[FC,h]
theorem Qkk {key:List UInt8} (h:key.length=32) (n:Nat):(FC key n)[32]?=some (.int .i64 (n:Int)):=by
 rw[FC,QyC (by rw[Qyo,h];omega),Qyo,h]
 rfl
theorem Qvx {key:List UInt8} (h:key.length=32) (n m:Nat):(FC key n).set 32 (.int .i64 (m:Int))=FC key m:=by
 rw[FC,Qy3 _ _ (by rw[Qyo,h];omega),Qyo,h]
 rfl
set_option maxRecDepth 100000 in
set_option maxHeartbeats 4000000 in
theorem QrC (A:Option Addr) (c:Nat) (key:List UInt8) (w:World) (hk:RdB w A 32 key):
 Calls Tryz.prog 141 #[.slice A 32 c] w fun e w'=>∃g,e= .returned (.tuple #[.pointer (some ⟨g,0,none⟩),.int .i64 0])∧w.heap.size≤g∧Blk w' g 289 (FC key 0)∧Later w w':=by
 have hkl:=hk.len
 have hz:Tryz.prog.built 289 []=some (Qyl 32 (Value.int .u8 0)++[Value.int .i64 0]).toArray:=by kernel_rfl
 have hsp:Qan (Qyl 32 (Value.int .u8 0)++[Value.int .i64 0]) 0 ((key.map W8).take 32)=FC key 0:=by
  rw[QyA (by rw[Qyo];omega),Qan,Qyo,hkl,FC]
  rfl
 have hb:=Blk.new w 289 (Qyl 32 (Value.int .u8 0)++[Value.int .i64 0])
 have L:=Qaa w (.cells (Qyl 32 (Value.int .u8 0)++[Value.int .i64 0]).toArray 289)
 have hll:(Qyl 32 (Value.int .u8 0)++[Value.int .i64 0]).length=33:=by simp
 generalize Qyl 32 (Value.int .u8 0)++[Value.int .i64 0]=Z at *
 go_enter Tryz.func141,Tryz.ntmps141
 go_wp2_with (first
  | (refine Qar rfl _ _ rfl Z ?hb ?_;(case hb=>simp only[Qyw,QyD];exact hz))
  | (refine Qaq rfl _ _ _ _ rfl 5 Tryz.underlying25 Qbo w.heap.size 0 32 32 _ _ hb A 32 c (key.map W8) (hk.later L) (QaC _) rfl rfl (by omega) ?_;intro w2 hb2 ho2;rw[hsp]at hb2)
  | fail)
 go_ret2
 exact⟨_,rfl,Qyv _,hb2,L.only ho2 (Qyv _)⟩
set_option maxRecDepth 100000 in
set_option maxHeartbeats 4000000 in
theorem QoF (g n:Nat) (key:List UInt8) (w0 w:World) (hb:Blk w g 289 (FC key 0)) (hk:key.length=32) (hl:Later w0 w) (hg:w0.heap.size≤g) (hn:n≤65536):
 Calls Tryz.prog 162 #[.pointer (some ⟨g,0,none⟩),.int .i64 (n:Int)] w fun e w'=>∃A' c',e= .returned (.tuple #[.slice A' n c',.int .i64 0])∧OwnB w' w0.heap.size A' n c' (chaS key n)∧Later w0 w':=by
 have h1:decide ((n:Int)<0)=false:=decide_eq_false (by omega)
 have h2:decide ((65536:Int)<(n:Int))=false:=decide_eq_false (by omega)
 have hu:=hb.cellD 32 (Qkk hk 0)
 have hfl:=QnY hk 0
 have hset:=hid (Qvx hk 0 n)
 have hP:=hid (fun (w:World) h=>Qjg (some ⟨g,0,none⟩) 32 n key w h hn)
 have hcl:=hid (fun (w:World) (h:Blk w g 289 (FC key 0))=>(show RdB w (some ⟨g,0,none⟩) 32 key from QcU h hk))
 have hlt:=hb.lt
 have hSl:=Qb8 key n
 have hF:Hid ((FC key 0)[32]?=some (.int .i64 0)):=hid (Qkk hk 0)
 generalize FC key 0=F0 at *
 generalize FC key n=Fn at *
 generalize chaS key n=S at *
 go_enter Tryz.func162,Tryz.ntmps162
 go_wp2_with fail
 refine Qad [([0,1,2,3,4,5,6,7,8],9)] [10] [] (by as_aux_lemma=>kernel_rfl) (by as_aux_lemma=>kernel_rfl) (by intro _ _ d _ _ h;cases d<;>exact h) ?_
 simp only[Qaj,pick,Qym,Qyn,Qyp,Qys,Qyr]
 repeat (go_big_quiet_step (fail))
 refine wpQuiet_nil ?_
 go_wp2_with fail
 (with_reducible refine (hP.out _ (hcl.out _ hb.drew)).mono ?_);rintro e w2 ⟨A2,c2,rfl,o2,l2⟩
 go_wp2_with fail
 try refine⟨by first|assumption|exact Qab _|exact Qaa _ _|exact Later.refl _,?_⟩
 try simp only[Qaj,pick,Qym,Qyn,Qyp,Qys,Qyr]
 repeat (go_big_quiet_step (fail))
 refine wpQuiet_nil ?_
 have hb2:=(hb.later (Qab _)).later l2
 have hu2:=hb2.cellD 32 hF.out
 go_wp2_with (first
  | (refine Qag rfl rfl _ _ _ rfl g 32 _ _ hb2 rfl (by omega) rfl (by kernel_rfl) ?_;intro v3 w3 hv3 hb3 ho3)
  | fail)
 go_ret2
 have hbase:∀b,(Value.slice A2 n c2).ownBlock=some b→b≠g:=fun b hb' e=>by
  have:=(World.ownsRow.lt o2 b hb').1
  simp at this
  omega
 exact⟨_,_,rfl,QbR (QfT o2 ho3 hbase) (by have:=hl.size;simpa using this),((hl.trans (Qab _)).trans l2).only ho3 hg⟩
set_option maxRecDepth 100000 in
set_option maxHeartbeats 4000000 in
theorem QmL (g m d:Nat) (B:Option Addr) (key:List UInt8) (ps:List (List UInt8)) (w0 w:World) (hp:Parts w0 (fun _=>False) B m ps) (hm:m≤1048576) (hb:Blk w g 289 (FC key 0)) (hk:key.length=32) (hl:Later w0 w) (hg:w0.heap.size≤g) (hn:ps.flatten.length≤65536):
 Calls Tryz.prog 142 #[.pointer (some ⟨g,0,none⟩),.slice B m d] w fun e w'=>∃A' c',e= .returned (.tuple #[.slice A' ps.flatten.length c',.int .i64 0])∧OwnB w' w0.heap.size A' ps.flatten.length c' (xorB ps.flatten (chaS key ps.flatten.length))∧Later w0 w':=by
 have hpl:=hp.len
 have hN:=hid (fun n h (w:World) (hb:Blk w g 289 (FC key 0)) hl=>QoF g n key w0 w hb hk hl hg h)
 have hJ:=hid (fun (w:World) h=>QeK B m d ps w h (by omega) (by omega))
 have hSl:=Qb8 key ps.flatten.length
 have hF:Hid ((FC key 0)[32]?=some (.int .i64 0)):=hid (Qkk hk 0)
 have hft:=hid (fun k=>Qdl ps k)
 have hle:=hid (fun k=>QbX ps k)
 have hX:=hid (fun (w:World) C e h=>QpM C e ps.flatten.length ps.flatten (chaS key ps.flatten.length) w h rfl hSl (by omega))
 have hall:ps.take m=ps:=by rw[←hpl,List.take_length]
 generalize hS:chaS key ps.flatten.length=S at *
 generalize xorB ps.flatten S=X at *
 generalize FC key 0=F0 at *
 generalize hTe:ps.flatten.length=T at *
 replace hS:=hid hS
 go_enter Tryz.func142,Tryz.ntmps142
 go_wp2_with fail
 go_loopw [6,8,13] (fun t _ i wr=>∃k:Nat,k≤m∧i= .int .i64 k∧t= .int .i64 ((ps.take k).flatten.length:Nat)∧Later w wr) (fun _ _ i _=>m-(intOf i).toNat)
 case atStart=>exact⟨0,by omega,rfl,rfl,Later.refl w⟩
 case round=>
  obtain⟨k,hk',rfl,rfl,L⟩:=hrel
  by_cases hlt:k<m
  ·obtain⟨b,o,Ak,nk,ck,rfl,hb',hck,hcap,hrd,_⟩:=hp.at_ hlt
   replace hck:=((hl.trans L).below.cell (p:=⟨b,o+k,none⟩) hb').trans hck
   replace hb':b<wr.heap.size:=QyL hb' (hl.trans L).size
   have hu:=(hb.later L).cellD 32 hF.out
   have e1:(ps.take (k+1)).flatten.length=(ps.take k).flatten.length+nk:=by
    have h1:=hrd.len
    have h2:k<ps.length:=by omega
    rw[hft.out k h2,Qyz]
    rw[Qyt,Qyq h2,QAh]at h1
    rw[h1]
   have e2:=hle.out (k+1)
   generalize (ps.take k).flatten.length=s at *
   generalize hs':(ps.take (k+1)).flatten.length=s' at *
   replace hs':=hid hs'
   have hcmp:decide ((65536:Int)-(s:Int)<(nk:Int))=false:=decide_eq_false (by omega)
   go_wp2
   exact⟨⟨k+1,by omega,by go_num,by rw[hs'.out,e1];go_num,L⟩,by simp[intOf];omega⟩
  ·obtain rfl:k=m:=by omega
   rw[hall,hTe]
   go_wp2_with fail
   (with_reducible refine (hN.out T hn _ (hb.later L) (hl.trans L)).mono ?_);rintro e w2 ⟨A2,c2,rfl,o2,l2⟩
   rw[hS.out]at o2
   go_wp2_with fail
   (with_reducible refine (hJ.out _ (hp.later l2)).mono ?_);rintro e w3 ⟨A3,c3,rfl,o3,l3⟩
   go_wp2_with fail
   have P4:Parts (w3.alloc (.cells #[.slice A3 T c3,.slice A2 T c2] 25)) (fun _=>False) (some ⟨w3.heap.size,0,none⟩) 2 [ps.flatten,S]:=
    QmN (Blk.new w3 25 [.slice A3 T c3,.slice A2 T c2]) (Qdx (o3.rd.later (Qaa _ _)) o3.cap) (Qdx ((o2.later l3).rd.later (Qaa _ _)) o2.cap)
   (with_reducible refine (hX.out _ _ _ P4).mono ?_);rintro e w5 ⟨A5,c5,rfl,o5,l5⟩
   have L5:=((l2.trans l3).trans (Qaa w3 _)).trans l5
   go_wp2_with fail
   go_ret2
   exact⟨_,_,rfl,o5.mono ((l2.trans l3).trans (Qaa w3 _)).size,L5⟩
set_option maxRecDepth 100000 in
set_option maxHeartbeats 4000000 in
theorem QoI (A:Option Addr) (c m d:Nat) (B:Option Addr) (key:List UInt8) (ps:List (List UInt8)) (w:World) (hk:RdB w A 32 key) (hp:Parts w (fun _=>False) B m ps) (hm:m≤1048576) (hn:ps.flatten.length≤65536):
 Calls Tryz.prog 118 #[.slice A 32 c,.slice B m d] w fun e w'=>∃A' c',e= .returned (.tuple #[.slice A' ps.flatten.length c',.int .i64 0])∧OwnB w' w.heap.size A' ps.flatten.length c' (xorB ps.flatten (chaS key ps.flatten.length))∧Later w w':=by
 have hT:=hid (fun g (w':World) hb hl hg=>QmL g m d B key ps w w' hp hm hb hk.len hl hg hn)
 generalize xorB ps.flatten (chaS key ps.flatten.length)=X at *
 generalize ps.flatten.length=T at *
 go_enter Tryz.func118,Tryz.ntmps118
 go_wp2_with fail
 (with_reducible refine (QrC A c key _ hk).mono ?_);rintro e w1 ⟨g,rfl,hg,hb,l1⟩
 go_wp2_with fail
 (with_reducible refine (hT.out g _ hb l1 hg).mono ?_);rintro e w2 ⟨A2,c2,rfl,o2,l2⟩
 go_wp2_with fail
 go_ret2
 exact⟨_,_,rfl,o2,l2⟩
theorem Qcn:(Tryz.prog.info? 97).map (·.size)=some 288:=by kernel_rfl
theorem Qfj:(Tryz.prog.info? 100).map (·.size)=some 768:=by kernel_rfl
theorem Qt5:(Tryz.prog.info? 95).map (·.size)=some 240:=by kernel_rfl
theorem QsY:(Tryz.prog.info? 100).bind (·.zero)=some (.agg (Qyl 768 (W8 0)).toArray):=by kernel_rfl
theorem zcH:Tryz.zeroCells97.toList=(Qyl 288 (0:UInt8)).map W8:=by rw[Qy5];kernel_rfl
theorem zcP:Tryz.zeroCells100.toList=(Qyl 768 (0:UInt8)).map W8:=by rw[Qy5];kernel_rfl
theorem Ql9:Tryz.prog.built 97 []=some ((Qyl 288 (0:UInt8)).map W8).toArray:=by rw[Qy5];kernel_rfl
theorem Qnl:Tryz.prog.built 100 []=some ((Qyl 768 (0:UInt8)).map W8).toArray:=by rw[Qy5];kernel_rfl
theorem Qmh (h:List UInt8) (hl:h.length=288):Tryz.prog.built 100 [(0,.agg (h.map W8).toArray)]=some ((h++Qyl 480 0).map W8).toArray:=by
 have hb:=Qet (n:=768) (pl:=[(0,288),(288,480)]) Tryz.underlying100 QsY (by kernel_rfl) [(0,0,h)] (by
  intro x hx
  simp only[QyI,QyN,or_false]at hx
  subst hx
  simp only[hl];decide)
 rw[show Qen (Qyl 768 0) ([(0,0,h)].map fun x=>(x.2.1,x.2.2))=h++Qyl 480 0 by
  simp only[QyJ,QyD,Qen]
  rw[show Qyl 768 (0:UInt8)=Qyl 288 0++Qyl 480 0 by rw[List.replicate_append_replicate],Qdb _ _ _ (by rw[QyO,hl])]]at hb
 exact hb
theorem Qh6 (bs:List UInt8) (n:Nat) (h:bs.length=n):subB bs 0 n=bs:=by rw[subB,List.drop_zero,QyA (by omega)]
section
variable {ops:Array Oper} {rest:List Oper} {o:Oper} {a:Act} {w:World} {Q:Exit→Act→World→Prop}
theorem Qdu (hgd:o.guard=none) (hd:o.dst=none) (x y:Operand) (ho:o.op= .store 97 x y) {g:Nat} {t:TypeId} {l:List Value} {bs:List UInt8} (hg:Blk w g t l) (hx:a.eval x= .pointer (some ⟨g,0,none⟩)) (hy:a.eval y= .agg (bs.map W8).toArray) (hbl:bs.length=288) (hl:l.length=288)
 (h:∀w',Blk w' g t (bs.map W8)→Only g w w'→wpList Tryz.prog ops Q rest a w'):wpList Tryz.prog ops Q (o :: rest) a w:=
 QgY 288 hgd hd x y ho hg hx hy Qcn hbl hl h
theorem Qlz (hw:Region.wanted o (yielded ops a.tmps)=true) (x:Operand) (ho:o.op= .load 97 x) {g:Nat} {t:TypeId} {bs:List UInt8} (hb:Blk w g t (bs.map W8)) (hl:bs.length=288) (hx:a.eval x= .pointer (some ⟨g,0,none⟩))
 (h:wpList Tryz.prog ops Q rest (a.put o.dst (.agg (bs.map W8).toArray)) w):wpList Tryz.prog ops Q (o :: rest) a w:=
 QnT 0 288 hw x ho hb hx Tryz.underlying97 rfl Qcn (Qh6 _ _ hl) hl h
theorem QeT (hgd:o.guard=none) (hd:o.dst=none) (x y:Operand) (ho:o.op= .store 100 x y) {g:Nat} {t:TypeId} {l:List Value} {bs:List UInt8} (hg:Blk w g t l) (hx:a.eval x= .pointer (some ⟨g,0,none⟩)) (hy:a.eval y= .agg (bs.map W8).toArray) (hbl:bs.length=768) (hl:l.length=768)
 (h:∀w',Blk w' g t (bs.map W8)→Only g w w'→wpList Tryz.prog ops Q rest a w'):wpList Tryz.prog ops Q (o :: rest) a w:=
 QgY 768 hgd hd x y ho hg hx hy Qfj hbl hl h
theorem Qp1 (hw:Region.wanted o (yielded ops a.tmps)=true) (x:Operand) (ho:o.op= .load 100 x) {g:Nat} {t:TypeId} {bs:List UInt8} (hb:Blk w g t (bs.map W8)) (hl:bs.length=768) (hx:a.eval x= .pointer (some ⟨g,0,none⟩))
 (h:wpList Tryz.prog ops Q rest (a.put o.dst (.agg (bs.map W8).toArray)) w):wpList Tryz.prog ops Q (o :: rest) a w:=
 QnT 0 768 hw x ho hb hx Tryz.underlying100 rfl Qfj (Qh6 _ _ hl) hl h
end
theorem Qph (b:List UInt8) (h:b.length=288):putB (putB (putB (Qyl 288 0) 0 (b.take 32)) 32 ((b.drop 32).take 16)) 48 (b.drop 48)=b:=by
 have e1:b=b.take 32++((b.drop 32).take 16++b.drop 48):=by
  rw[show b.drop 48=(b.drop 32).drop 16 by rw[QAc],Qy9,Qy9]
 have l1:(b.take 32).length=32:=by simp;omega
 have l2:((b.drop 32).take 16).length=16:=by simp;omega
 have l3:(b.drop 48).length=240:=by simp;omega
 generalize b.take 32=p at *
 generalize (b.drop 32).take 16=q at *
 generalize b.drop 48=r at *
 rw[show Qyl 288 (0:UInt8)=Qyl 32 0++(Qyl 16 0++Qyl 240 0) by simp,Qdb _ _ _ (by rw[QyO,l1]),Qdi _ _ _ _ 32 l1 (by rw[QyO,l2]),←QyK,QdY _ _ _ 48 (by rw[Qyz,l1,l2]) (by rw[QyO,l3]),QyK,e1]
set_option maxRecDepth 100000 in
set_option maxHeartbeats 4000000 in
theorem Ql5 (A:Option Addr) (c:Nat) (b:List UInt8) (w:World) (hb:RdB w A 288 b) (hc:288≤c):
 Calls Tryz.prog 56 #[.slice A 288 c] w fun e w'=>e= .returned (.tuple #[.agg (b.map W8).toArray,.int .i64 0])∧Later w w':=by
 have hbl:=hb.len
 obtain⟨b0,p,rfl,hb00,_⟩:=hb.2 (by omega)
 have B0:Bag w (w.alloc (.cells Tryz.zeroCells97 97)) [(w.heap.size,97,(Qyl 288 (0:UInt8)).map W8)]:=(Bag.none w).add (Qaa _ _) (by simp) (Qyv _) ((Blk.new w _ Tryz.zeroCells97.toList).cast zcH)
 have hp:=Qph b hbl
 have l0:(Qyl 288 (0:UInt8)).length=288:=by simp
 have HZ:=hid zcH
 generalize hZ:Qyl 288 (0:UInt8)=Z at *
 have l1:(putB Z 0 (b.take 32)).length=288:=by rw[Qb3 (by rw[QyW];omega)];exact l0
 have l2:(putB (putB Z 0 (b.take 32)) 32 ((b.drop 32).take 16)).length=288:=by rw[Qb3 (by rw[QyW,QyQ];omega)];exact l1
 have e3:((b.drop 48).take 240)=b.drop 48:=QyA (by rw[QyQ];omega)
 have HE:=hid e3
 have HP:=hid hp
 clear e3 hp hZ
 have hc32:cutA (some ⟨b0,p,none⟩) 32 c=some ⟨b0,p+32,none⟩:=by rw[cutA,if_neg (by omega)];rfl
 have hc48:cutA (some ⟨b0,p,none⟩) 48 c=some ⟨b0,p+48,none⟩:=by rw[cutA,if_neg (by omega)];rfl
 have h32:Hid (∀ w,RdB w (some ⟨b0,p,none⟩) 288 b→RdB w (some ⟨b0,p+32,none⟩) 256 (b.drop 32)):=hid (fun w h=>by rw[←hc32];exact RdB.cut h (by omega) hc)
 have h48:Hid (∀ w,RdB w (some ⟨b0,p,none⟩) 288 b→RdB w (some ⟨b0,p+48,none⟩) 240 (b.drop 48)):=hid (fun w h=>by rw[←hc48];exact RdB.cut h (by omega) hc)
 generalize hZ2:putB (putB Z 0 (b.take 32)) 32 ((b.drop 32).take 16)=Z2 at *
 generalize hZ1:putB Z 0 (b.take 32)=Z1 at *
 have H1:=hid hZ1
 have H2:=hid hZ2
 have hzl:(Z.map W8).length=288:=by rw[Qyo];exact l0
 clear hZ1 hZ2
 go_enter Tryz.func56,Tryz.ntmps56
 have hrr:=hb.later (B0.lat.trans (Qaa _ (.cells Tryz.zeroCells97 97)))
 have hbb:=(Blk.new' (n:=w.heap.size+1) (w.alloc (.cells Tryz.zeroCells97 97)) 97 Tryz.zeroCells97.toList (by simp)).cast HZ.out
 go_wp2_with (first
  | (refine Qaq rfl _ _ _ _ rfl 5 Tryz.underlying25 Qbo (w.heap.size+1) 0 32 32 _ _ hbb (some ⟨b0,p,none⟩) 288 c (b.map W8) hrr (QaC _) rfl rfl (by rw[Qyo];omega) ?_;intro w1 hb1 ho1;rw[←Qzp,Qcb,H1.out]at hb1
     have B1:=B0.push (Qaa _ _) (by simp) ho1 hb1)
  | fail)
 clear hb1 ho1 B0 hrr hbb
 generalize w.heap.size+1=g at *
 have B2:=B1.drew
 simp only[Act.put,Qyu,Qyy,Qyx]
 refine Qad [] [0,1,2,3] [4] (by as_aux_lemma=>kernel_rfl) (by as_aux_lemma=>kernel_rfl) (by intro _ _ d _ _ h;cases d<;>exact h) ?_
 simp only[Qaj,pick,Qym,Qyn,Qyp,Qys,Qyr]
 repeat (go_big_quiet_step (fail))
 refine wpQuiet_nil ?_
 go_wp2_with (first
  | (refine Qaq rfl _ _ _ _ rfl 5 Tryz.underlying25 Qbo g 32 16 16 _ _ (B2.nth 0 rfl) (some ⟨b0,p+32,none⟩) 256 (c-32) ((b.drop 32).map W8) (h32.out _ (hb.later B2.lat)) (QaC _) rfl rfl (by rw[Qyo];omega) ?_;intro w3 hb3 ho3;rw[←Qzp,Qcb,H2.out]at hb3
     have B3:=(B2.write 0 rfl ho3 hb3).drew)
  | fail)
 clear hb3 ho3 B1 B2
 simp only[Act.put,Qyu,Qyy,Qyx]
 refine Qad [] [0,1,2,3] [4] (by as_aux_lemma=>kernel_rfl) (by as_aux_lemma=>kernel_rfl) (by intro _ _ d _ _ h;cases d<;>exact h) ?_
 simp only[Qaj,pick,Qym,Qyn,Qyp,Qys,Qyr]
 repeat (go_big_quiet_step (fail))
 refine wpQuiet_nil ?_
 go_wp2_with (first
  | (refine Qaq rfl _ _ _ _ rfl 5 Tryz.underlying25 Qbo g 48 240 240 _ _ (B3.nth 0 rfl) (some ⟨b0,p+48,none⟩) 240 (c-48) ((b.drop 48).map W8) (h48.out _ (hb.later B3.lat)) (QaC _) rfl rfl (by rw[Qyo];omega) ?_;intro w4 hb4 ho4;rw[←Qzp,Qcb,HE.out,HP.out]at hb4
     have B4:=B3.write 0 rfl ho4 hb4)
  | (refine Qlz rfl _ rfl (B4.nth 0 rfl) hbl rfl ?_)
  | (refine Qdu rfl rfl _ _ rfl (B4.nth 1 rfl) rfl rfl hbl hzl ?_;intro w9 hb9 ho9)
  | fail)
 exact bodyPost_ret (Qaf rfl _ _ _ _ _ _ hb9 rfl Tryz.underlying97 rfl (by rw[Qyo,hbl];exact Qcn)) rfl ⟨rfl,(B4.write 1 rfl ho9 hb9).lat⟩
end Go.Proofs.YtcbdgnlcknllnaaGreat
