/-
  Lemmas for the last text of this claim (part 14 of 20).
-/
import Derived.ArgAppend
import Derived.BigQuiet
import Derived.BigRegion
import Derived.ChangeOld
import Derived.Deep.RegionWith
import Derived.DeepKeys4
import Derived.JoinedCond
import Derived.LaidMore
import Derived.Laws.BytesArg
import Derived.Laws.CopyOwn
import Derived.Laws.Externs
import Derived.Laws.IdiomStrings
import Derived.Laws.Tables
import Derived.Lib.AppendStr
import Derived.Lib.AppendZerosOnto
import Derived.Lib.Mul64
import Derived.Lib.SlBytesConst
import Derived.LoopN
import Derived.Maps.OwnSet
import Derived.OpenShut
import Derived.OrdersHeld
import Derived.ProofKit
import Derived.Shelf.Spec.BitsCarry
import Derived.ShutString
import Derived.Test.YtdhgpkdjdmlphaaGreatProg
import Derived.Test.YtdhgpkdjdmlphaaGreatRows
import Derived.WalkKit
import Derived.WalkLawsBesides
import Derived.WalkSpells
import Derived.Test.YtdhgpkdjdmlphaaGreatPB
import Derived.Test.YtdhgpkdjdmlphaaGreatPC
import Derived.Test.YtdhgpkdjdmlphaaGreatPD
import Derived.Test.YtdhgpkdjdmlphaaGreatPE
import Derived.Test.YtdhgpkdjdmlphaaGreatPH
import Derived.Test.YtdhgpkdjdmlphaaGreatPJ
import Derived.Test.YtdhgpkdjdmlphaaGreatPK
import Derived.Test.YtdhgpkdjdmlphaaGreatPL
import Derived.Test.YtdhgpkdjdmlphaaGreatPM
open List renaming replicate → Qym, length_map → Qyn, getElem?_cons_succ → Qyo, getElem?_cons_zero → Qyp, getElem?_eq_getElem → Qyq, getD_eq_getElem?_getD → Qys, nil_append → Qyt, cons_append → Qyu, length_append → Qyv, take_of_length_le → Qyx, getElem?_append_right → Qyz, mem_cons → QyA, not_mem_nil → QyB, getElem?_eq_some_iff → QyC, append_assoc → QyE, getElem?_map → QyF, getElem?_append_left → QyH, set_cons_zero → QyI, map_toArray → QyK, length_take → QyL, take_succ_eq_append_getElem → QyQ, map_nil → QyU, take_append_drop → QyV, set_append_right → QyW, append_nil → QyZ, length_drop → Qy0, map_replicate → Qy4, eq_nil_of_length_eq_zero → Qy5, map_append → Qy6, length_cons → Qy9, mem_map → Qzb, range → Qzc, drop_left' → Qzg, drop_zero → Qzn, getElem?_eq_none → Qzq, getElem?_drop → QzC, replicate_succ → QzE, getElem_mem → QzH, drop_eq_getElem_cons → QzT, mem_append → Qz7, drop_drop → QAf, take_left' → QAj
open Nat renaming le_refl → Qyw, lt_of_lt_of_le → QyG, zero_add → QyY, le_trans → Qy3, sub_self → Qzu, min_eq_left → QzD, add_zero → QzO
open Option renaming toList_some → Qyr, map_eq_some_iff → QzR
open UInt8 renaming toNat_inj → Qzp, lt_iff_toNat_lt → QzU
set_option linter.all false
namespace Go.Proofs.YtdhgpkdjdmlphaaGreat
open Go.RowKit
open Go.BigFrame
def xorB (xs ys:List UInt8):List UInt8:=List.zipWith (· ^^^ ·) xs ys
theorem QaT {xs ys:List UInt8} (h:xs.length=ys.length):(xorB xs ys).length=ys.length:=by simp[xorB,h]
def Qfi (xs ys:List UInt8) (k:Nat):List UInt8:=(xorB xs ys).take k++xs.drop k
theorem Qf7 {xs ys:List UInt8} (h:xs.length=ys.length) (k:Nat) (hk:k≤xs.length):(Qfi xs ys k).length=xs.length:=by
 have:=QaT h
 simp[Qfi]
 omega
theorem Qh7 (xs ys:List UInt8):Qfi xs ys 0=xs:=by simp[Qfi]
theorem QiU {xs ys:List UInt8} (h:xs.length=ys.length):Qfi xs ys xs.length=xorB xs ys:=by
 have:=QaT h
 rw[Qfi,List.drop_length,QyZ,Qyx (by omega)]
theorem QjD {xs ys:List UInt8} (h:xs.length=ys.length) {k:Nat} (hk:k<xs.length):(Qfi xs ys k)[k]?=some (xs.getD k 0):=by
 have:=QaT h
 rw[Qfi,Qyz (by simp;omega),QyL,this,QzD (by omega),Qzu,QzC,QzO,Qyq hk,Qys,Qyq hk]
 rfl
theorem QhV {xs ys:List UInt8} (h:xs.length=ys.length) {k:Nat} (hk:k<xs.length):(Qfi xs ys k).set k (xs.getD k 0 ^^^ ys.getD k 0)=Qfi xs ys (k+1):=by
 have hl:=QaT h
 have hg:(xorB xs ys)[k]?=some (xs.getD k 0 ^^^ ys.getD k 0):=by
  rw[xorB,List.getElem?_zipWith,Qys,Qys,Qyq hk,Qyq (show k<ys.length by omega)]
  rfl
 have hkx:k<(xorB xs ys).length:=by omega
 rw[Qfi,Qfi,QyW _ _ (by simp;omega),QyL,hl,QzD (by omega),Qzu,QzT hk,QyI,QyQ hkx,QyE]
 have:(xorB xs ys)[k]=xs.getD k 0 ^^^ ys.getD k 0:=by
  have:=Qyq hkx
  rw[hg]at this
  exact (Option.some.inj this).symm
 rw[this]
 rfl
theorem QhC {xs ys:List UInt8} (h:xs.length=ys.length):xorB (xorB xs ys) ys=xs:=by
 apply List.ext_getElem?
 intro j
 rw[xorB,xorB,List.getElem?_zipWith,List.getElem?_zipWith]
 by_cases hj:j<xs.length
 ·rw[Qyq hj,Qyq (show j<ys.length by omega)]
  simp[UInt8.xor_assoc]
 ·rw[Qzq (show xs.length≤j by omega),Qzq (show ys.length≤j by omega)]
end Go.Proofs.YtdhgpkdjdmlphaaGreat
namespace Go.Proofs.YtdhgpkdjdmlphaaGreat
open Go.RowKit
structure Prt where
 kd:UInt8
 id:UInt64
 ix:Int
 ct:Int
 da:List UInt8
def PaC (p:Prt) (v:Value):List Value:=[W8 p.kd,W64 p.id,.int .i64 p.ix,.int .i64 p.ct,v]
def prtE (p:Prt):Nat:=
 if p.kd<1∨3<p.kd then 1 else if 450<p.da.length then 2 else if p.ct<1∨16<p.ct∨p.ix<0∨p.ct≤p.ix then 3
 else if p.kd≠1∧p.ct≠1 then 3 else if p.kd=2∧(p.id≠0∨p.da.length≠0) then 3 else 0
abbrev Y16:={l:List UInt8 // l.length=16}
structure Cmd where
 kd:UInt8
 fl:UInt8
 dl:UInt32
 nx:UInt64
 ma:Y16
def Qbt:Y16:=⟨Qym 16 0,by simp⟩
def cmd0:Cmd:=⟨0,0,0,0,Qbt⟩
def CC (c:Cmd):List Value:=W8 c.kd :: W8 c.fl :: W32 c.dl :: W64 c.nx :: c.ma.val.map W8
theorem QaR (c:Cmd):(CC c).length=20:=by simp[CC,c.ma.2]
theorem Quk (c:Cmd):(CC c).drop 4=c.ma.val.map W8:=rfl
end Go.Proofs.YtdhgpkdjdmlphaaGreat
namespace Go.Proofs.YtdhgpkdjdmlphaaGreat
open Go.RowKit
open Go.BigFrame
theorem Qnm (q:List UInt8) (n:Nat) (h:q.length=n):xorB (Qym n 0) q=q:=by
 subst h
 induction q with
 | nil=>rfl
 | cons a q ih=>
   rw[Qy9,QzE]
   show (0 ^^^ a) :: xorB (Qym q.length 0) q=_
   rw[ih,UInt8.zero_xor]
def Qcy (c:Cmd):Bool:=(c.kd==1)==(c.nx != 0)&&(c.kd==4||c.ma.val==Qym 16 0)
def cmdE (c:Cmd):Nat:=if c.kd<1∨4<c.kd then 1 else if Qcy c=false then 3 else if 1000000<c.dl then 11 else 0
set_option maxRecDepth 100000 in
theorem QmO (k:Nat) (hk:1≤k) (h8:k≤8) (w:World):Calls Tryz.prog 117 #[.int .i64 2,.int .i64 (k:Int)] w fun e w'=>e= .returned (.bool true)∧Later w w':=by
 have h1:decide ((1:Int)≤(k:Int))=true:=decide_eq_true (by omega)
 have h2:decide ((k:Int)≤8)=true:=decide_eq_true (by omega)
 go_enter Tryz.func117,Tryz.ntmps117
 go_wp2
 go_ret
 exact⟨rfl,Later.refl w⟩
def x2 (xs ys:List UInt8):Nat→List UInt8
 | 0=>Qym xs.length 0
 | 1=>xs
 | _=>xorB xs ys
theorem Qpe {xs ys:List UInt8} (h:xs.length=ys.length):∀k,(x2 xs ys k).length=xs.length
 | 0=>by simp[x2]
 | 1=>rfl
 | k+2=>by
   show (xorB xs ys).length=_
   rw[QaT h,h]
theorem QtO {xs ys:List UInt8}:∀k,k<2→xorB (x2 xs ys k) ([xs,ys].getD k [])=x2 xs ys (k+1)
 | 0,_=>Qnm _ _ rfl
 | 1,_=>rfl
theorem Qko {xs ys:List UInt8} (h:xs.length=ys.length) (k:Nat) (hk:k<2):([xs,ys].getD k []).length=xs.length:=by
 match k,hk with
 | 0,_=>rfl
 | 1,_=>exact h.symm
set_option maxRecDepth 100000 in
set_option maxHeartbeats 4000000 in
theorem Qjq (B:Option Addr) (d n:Nat) (xs ys:List UInt8) (w:World) (hp:Parts w (fun _=>False) B 2 [xs,ys]) (hx:xs.length=n) (hy:ys.length=n) (hn:n≤1048576):
 Calls Tryz.prog 148 #[.slice B 2 d] w fun e w'=>∃A' c',e= .returned (.tuple #[.slice A' n c',.int .i64 0])∧OwnB w' w.heap.size A' n c' (xorB xs ys)∧Later w w':=by
 have hxy:xs.length=ys.length:=by omega
 have hm:=hid (fun k hk=>(Qko hxy k hk).trans hx)
 have hst:=hid (fun k (hk:k<2) (Xk:List UInt8) (hX:[xs,ys].getD k []=Xk)=>show xorB (x2 xs ys k) Xk=x2 xs ys (k+1) by rw[←hX];exact QtO k hk)
 have hsl:=hid (fun k=>(Qpe hxy k).trans hx)
 have h0:x2 xs ys 0=Qym n 0:=by rw[x2,hx]
 have h2:x2 xs ys 2=xorB xs ys:=rfl
 have hRl:=hid ((QaT hxy).trans hy)
 generalize xorB xs ys=R at *
 go_enter Tryz.func148,Tryz.ntmps148
 go_wp2_with fail
 go_loopw [5,16] (fun _ i wr=>∃k:Nat,k≤2∧i= .int .i64 k∧Later w wr) (fun _ i _=>2-(intOf i).toNat)
 case atStart=>exact⟨0,by omega,rfl,Later.refl w⟩
 case round=>
  obtain⟨k,hk,rfl,L⟩:=hrel
  by_cases hlt:k<2
  ·obtain⟨b,o,Ak,nk,ck,rfl,hb,hck,hcap,hrd,_⟩:=(hp.later L).at_ hlt
   obtain⟨b',o',A0,n0,c0,he,hb',hck',hcap',hrd',_⟩:=(hp.later L).at_ (show 0<2 by omega)
   simp only[Option.some.injEq,Addr.mk.injEq,and_true]at he
   obtain⟨rfl,rfl⟩:=he
   rw[QzO]at hck'
   obtain rfl:nk=n:=by rw[←hrd.len];exact hm.out k hlt
   obtain rfl:n0=nk:=by rw[←hrd'.len];exact hm.out 0 (by omega)
   go_wp2
   exact⟨⟨k+1,by omega,by go_num,L⟩,by simp[intOf];omega⟩
  ·obtain⟨b',o',A0,n0,c0,rfl,hb',hck',hcap',hrd',_⟩:=(hp.later L).at_ (show 0<2 by omega)
   rw[QzO]at hck'
   obtain rfl:n0=n:=by rw[←hrd'.len];exact hm.out 0 (by omega)
   clear hrd'
   go_wp2_with (first
    | (refine Qar rfl _ _ _ rfl 5 _ 1 Tryz.underlying22 Qcg rfl _ _ _ _ n0 rfl rfl rfl rfl (by omega) (by omega) ?_;intro w1 hb1 hl1')
    | fail)
   have hz:Qym n0 (Value.int .u8 0)=(x2 xs ys 0).map W8:=by rw[h0,Qy4];rfl
   replace hb1:Blk w1 wr.heap.size 5 ((x2 xs ys 0).map W8):=by rw[←hz];exact hb1
   have hgw:w.heap.size≤wr.heap.size:=L.size
   replace L:=L.trans hl1'
   clear hz h0 hl1' hck' hb'
   generalize wr.heap.size=g at *
   go_loopw [8,9,10,35] (fun _ _ _ i wr=>∃k:Nat,k≤2∧i= .int .i64 k∧Blk wr g 5 ((x2 xs ys k).map W8)∧Later w wr) (fun _ _ _ i _=>2-(intOf i).toNat)
   case atStart=>exact⟨0,by omega,rfl,hb1,L⟩
   case round=>
    clear hb1 L
    obtain⟨k,hk,rfl,hb1,L⟩:=hrel
    by_cases hlt:k<2
    ·obtain⟨b,o,Ak,nk,ck,he,hb,hck,hcap,hrd,_⟩:=hp.at_ hlt
     simp only[Option.some.injEq,Addr.mk.injEq,and_true]at he
     obtain⟨rfl,rfl⟩:=he
     obtain rfl:nk=n0:=by rw[←hrd.len];exact hm.out k hlt
     replace hck:=(L.below.cell (p:=⟨b',o'+k,none⟩) hb).trans hck
     replace hb:b'<wr.heap.size:=QyG hb L.size
     have hnext:=hst.out k hlt _ rfl
     have hyl:=hrd.len
     have hxl:=hsl.out k
     have hlen:(x2 xs ys k).length=([xs,ys].getD k []).length:=by omega
     generalize [xs,ys].getD k []=Y at *
     generalize hX':x2 xs ys (k+1)=X' at *
     generalize x2 xs ys k=X at *
     have HX':=hid hX'
     clear hX'
     have hX:=hid (fun k=>Qf7 hlen k)
     have hG:=hid (fun k (h:k<X.length)=>QjD hlen h)
     have hS:=hid (fun k (h:k<X.length)=>QhV hlen h)
     have hA:=hid (QiU hlen)
     have hN:=hid (Qh7 X Y)
     go_wp2_with fail
     go_loopw [9,10,41] (fun _ _ i wr=>∃j:Nat,j≤nk∧i= .int .i64 j∧Blk wr g 5 ((Qfi X Y j).map W8)∧Later w wr) (fun _ _ i _=>nk-(intOf i).toNat)
     case atStart=>exact⟨0,by omega,rfl,by rw[hN.out];exact hb1,L⟩
     case round=>
      clear hb1 L
      obtain⟨j,hj,rfl,hb1,L⟩:=hrel
      by_cases hjt:j<nk
      ·obtain⟨b2,o2,rfl,hb2,hc2⟩:=RdB.at_ (hrd.later L) (by omega)
       have c1:=hc2 j hjt
       have hxk:=hX.out j (by omega)
       have d1:=hb1.cellD j (by rw[QyF,hG.out j (by omega)];rfl)
       have HS:=hid (hS.out j (by omega))
       clear hc2
       generalize X.getD j 0=x at *
       generalize Y.getD j 0=y at *
       go_wp2_with (first
        | (refine Qae rfl rfl _ _ _ rfl g j _ _ hb1 rfl (by rw[Qyn];omega) rfl Qbv ?_;intro v' w5 hv' hb5 ho5;simp[go_sem]at hv';subst hv')
        | fail)
       rw[Qbq,HS.out]at hb5
       go_roundw
       case rel=>exact⟨j+1,by omega,by go_num,hb5,L.only ho5 hgw⟩
       case measure=>simp[intOf];omega
      ·obtain rfl:j=nk:=by omega
       have hAll:=hA.out
       rw[hxl,hnext]at hAll
       rw[hAll]at hb1
       go_wp2
       exact⟨⟨k+1,by omega,by go_num,by rw[HX'.out];exact hb1,L⟩,by simp[intOf];omega⟩
    ·obtain rfl:k=2:=by omega
     rw[h2]at hb1
     go_wp2
     go_ret2
     exact⟨_,_,rfl,by
      have:=QcJ hb1 hgw (by rw[Qyn,hRl.out];omega)
      rw[Qyn,hRl.out]at this
      exact this,L⟩
theorem Qlb:(Tryz.prog.info? 31).map (·.size)=some 16:=by kernel_rfl
theorem QvF:Tryz.prog.eqGuardType Tryz.prog.depth 31=false:=by kernel_rfl
@[go_sem high] theorem Qtz (op:BinOp) (x y:Operand) (xs ys:Array Value) (w:World):(eqGuard op 31 x y (.agg xs) (.agg ys)).run Tryz.prog w= .ok () w:=run_eqGuard_agg w op _ x y xs ys QvF
@[go_sem high] theorem Quv (x y:Y16) (w:World):(binOp .eql 31 (.agg (x.val.map W8).toArray) (.agg (y.val.map W8).toArray)).run Tryz.prog w= .ok (.bool (x.val==y.val)) w:=by
  rw[run_eql_struct,QaP w 0 W8 9998 31 5 16 Tryz.underlying31 Qbv Tryz.underlying5 rfl (Qhu _ _ Tryz.underlying5) _ _ x.2 y.2]
  rfl
@[go_sem high] theorem Quy (x y:Y16) (w:World):(binOp .neq 31 (.agg (x.val.map W8).toArray) (.agg (y.val.map W8).toArray)).run Tryz.prog w= .ok (.bool (x.val != y.val)) w:=by
  rw[run_neq_struct,QaP w 0 W8 9998 31 5 16 Tryz.underlying31 Qbv Tryz.underlying5 rfl (Qhu _ _ Tryz.underlying5) _ _ x.2 y.2]
  rfl
theorem Qpk:Tryz.prog.built 31 []=some (Qbt.val.map W8).toArray:=by
 show _=some ((Qym 16 (0:UInt8)).map W8).toArray
 rw[Qy4]
 kernel_rfl
theorem QcH {P:Program} {t:TypeId} {d:TypeDesc} {k:Nat} {v:Value} (hu:P.underlying t=some d) (hd:Qbz d=false) {zs:List Value} (hz:zs[k]?=some v) (w:World):(part t zs.toArray k).run P w= .ok v w:=by
 have ha:(isAgg t).run P w= .ok false w:=by
  unfold isAgg
  simp only[Sem.run_bind,run_underlying hu]
  cases d<;>simp_all [Qbz]
 unfold part
 simp[Sem.run_bind,ha,Result.andThen_ok,hz]
theorem Qhm {P:Program} {d k:Nat} {t:TypeId} {f:Field} {fs:List Field} (hf:f.type=t) (hu:P.underlying t=some (.int .u64)) (hn:f.name≠ "_") {xs ys:List Value} {p q:UInt64} (ho:f.offset=k) (hp:xs[k]?=some (W64 p)) (hq:ys[k]?=some (W64 q)) (w:World):
 (Op.eqFields (d+1) xs.toArray ys.toArray (f :: fs)).run P w=if p==q then (Op.eqFields (d+1) xs.toArray ys.toArray fs).run P w else .ok false w:=by
 rw[Op.eqFields,if_pos hn]
 simp only[Sem.run_bind,hf,ho,QcH hu rfl hp,QcH hu rfl hq,Result.andThen_ok,QgX t _ hu d p q w]
 cases p==q<;>simp
theorem QfU {P:Program} {d k:Nat} {t:TypeId} {f:Field} {fs:List Field} (hf:f.type=t) (hu:P.underlying t=some (.int .u8)) (hn:f.name≠ "_") {xs ys:List Value} {p q:UInt8} (ho:f.offset=k) (hp:xs[k]?=some (W8 p)) (hq:ys[k]?=some (W8 q)) (w:World):
 (Op.eqFields (d+1) xs.toArray ys.toArray (f :: fs)).run P w=if p==q then (Op.eqFields (d+1) xs.toArray ys.toArray fs).run P w else .ok false w:=by
 rw[Op.eqFields,if_pos hn]
 simp only[Sem.run_bind,hf,ho,QcH hu rfl hp,QcH hu rfl hq,Result.andThen_ok,Qhu t _ hu d p q w]
 cases p==q<;>simp
theorem Qhp {P:Program} {d k:Nat} {t:TypeId} {f:Field} {fs:List Field} (hf:f.type=t) (hu:P.underlying t=some (.int .u32)) (hn:f.name≠ "_") {xs ys:List Value} {p q:UInt32} (ho:f.offset=k) (hp:xs[k]?=some (W32 p)) (hq:ys[k]?=some (W32 q)) (w:World):
 (Op.eqFields (d+1) xs.toArray ys.toArray (f :: fs)).run P w=if p==q then (Op.eqFields (d+1) xs.toArray ys.toArray fs).run P w else .ok false w:=by
 rw[Op.eqFields,if_pos hn]
 simp only[Sem.run_bind,hf,ho,QcH hu rfl hp,QcH hu rfl hq,Result.andThen_ok,Qpf t _ hu d p q w]
 cases p==q<;>simp
def Qmx (x y:Cmd):Bool:=x.kd==y.kd&&(x.fl==y.fl&&(x.dl==y.dl&&(x.nx==y.nx&&x.ma.val==y.ma.val)))
@[go_sem] theorem Quw (x:Cmd):Qmx x x=true:=by simp[Qmx]
theorem QjK (x:Cmd):((CC x).drop 4).take 16=x.ma.val.map W8:=by rw[Quk,Qyx (by rw[Qyn,x.ma.2];omega)]
set_option maxRecDepth 100000 in
theorem QgN (x y:Cmd) (w:World) {fs:Array Field} (hu:Tryz.prog.underlying 64=some (.struct fs)):(Op.eqFields 9999 (CC x).toArray (CC y).toArray fs.toList).run Tryz.prog w= .ok (Qmx x y) w:=by
 rw[Tryz.underlying64]at hu
 cases hu
 rw[QfU (d:=9998) (k:=0) rfl Tryz.underlying5 (by decide) rfl rfl rfl,QfU (d:=9998) (k:=1) rfl Tryz.underlying5 (by decide) rfl rfl rfl,Qhp (d:=9998) (k:=2) rfl Tryz.underlying62 (by decide) rfl rfl rfl,
  Qhm (d:=9998) (k:=3) rfl Tryz.underlying23 (by decide) rfl rfl rfl,Qcu (d:=9997) (k:=4) rfl Tryz.underlying31 Qlb Qbv Tryz.underlying5 (by decide) rfl (QjK x) (QjK y) x.ma.2 y.ma.2,Qcq]
 rw[Qmx]
 cases x.kd==y.kd<;>cases x.fl==y.fl<;>cases x.dl==y.dl<;>cases x.nx==y.nx<;>cases x.ma.val==y.ma.val<;>rfl
theorem Qts:Tryz.prog.eqGuardType Tryz.prog.depth 64=false:=by kernel_rfl
@[go_sem high] theorem Qtv (op:BinOp) (x y:Operand) (xs ys:Array Value) (w:World):(eqGuard op 64 x y (.agg xs) (.agg ys)).run Tryz.prog w= .ok () w:=run_eqGuard_agg w op _ x y xs ys Qts
set_option maxRecDepth 100000 in
@[go_sem high] theorem Qt5 (x y:Cmd) (w:World):(binOp .eql 64 (.agg (CC x).toArray) (.agg (CC y).toArray)).run Tryz.prog w= .ok (.bool (Qmx x y)) w:=by
  rw[Qff Tryz.underlying64 (by kernel_rfl),QgN x y w Tryz.underlying64]
  rfl
set_option maxRecDepth 100000 in
@[go_sem high] theorem Qs3 (x y:Cmd) (w:World):(binOp .neq 64 (.agg (CC x).toArray) (.agg (CC y).toArray)).run Tryz.prog w= .ok (.bool (!Qmx x y)) w:=by
  rw[Qhf Tryz.underlying64 (by kernel_rfl),QgN x y w Tryz.underlying64]
  rfl
theorem QhQ:(Tryz.prog.info? 64).map (·.size)=some 20:=by kernel_rfl
theorem Qw6:(Tryz.prog.info? 64).bind (·.zero)=some (.agg (CC cmd0).toArray):=by kernel_rfl
theorem QnG (x:Cmd):∀u∈CC x,u.oneCell'=true:=by
 intro u hu
 simp only[CC,QyA,Qzb]at hu
 rcases hu with rfl|rfl|rfl|rfl|⟨b,_,rfl⟩<;>rfl
section
variable {ops:Array Oper} {rest:List Oper} {o:Oper} {a:Act} {w:World} {Q:Exit→Act→World→Prop}
theorem QfN (hgd:o.guard=none) (hd:o.dst=none) (x y:Operand) (ho:o.op= .store 64 x y) {g:Nat} {t:TypeId} {l:List Value} {z:Cmd} (hg:Blk w g t l) (hx:a.eval x= .pointer (some ⟨g,0,none⟩)) (hy:a.eval y= .agg (CC z).toArray) (hl:l.length=20)
 (h:∀w',Blk w' g t (CC z)→Only g w w'→wpList Tryz.prog ops Q rest a w'):wpList Tryz.prog ops Q (o :: rest) a w:=
 Qa7 hgd hd _ x y ho g t l _ hg hx hy 20 QhQ (QaR _) hl (QnG _) h
theorem QcC (hw:Region.wanted o (yielded ops a.tmps)=true) (x:Operand) (ho:o.op= .load 64 x) {g:Nat} {t:TypeId} {z:Cmd} (hb:Blk w g t (CC z)) (hx:a.eval x= .pointer (some ⟨g,0,none⟩))
 (h:wpList Tryz.prog ops Q rest (a.put o.dst (.agg (CC z).toArray)) w):wpList Tryz.prog ops Q (o :: rest) a w:=
 QaB hw _ x ho g 0 _ (fun j v hv=>by rw[QyY];exact hb.cellD j hv) hx _ Tryz.underlying64 rfl (by rw[QaR];exact QhQ) h
theorem QtL (hw:Region.wanted o (yielded ops a.tmps)=true) (x:Operand) (ho:o.op= .load 31 x) {g off:Nat} {y:Y16} (hc:∀j v,(y.val.map W8)[j]?=some v→w.cell? ⟨g,off+j,none⟩=some v) (hx:a.eval x= .pointer (some ⟨g,off,none⟩))
 (h:wpList Tryz.prog ops Q rest (a.put o.dst (.agg (y.val.map W8).toArray)) w):wpList Tryz.prog ops Q (o :: rest) a w:=
 QaB hw _ x ho g off _ hc hx _ Tryz.underlying31 rfl (by rw[Qyn,y.2];exact Qlb) h
end
theorem QfT {w:World} {g:Nat} {t:TypeId} {c:Cmd} (h:Blk w g t (CC c)):w.cell? ⟨g,0,none⟩=some (W8 c.kd)∧w.cell? ⟨g,1,none⟩=some (W8 c.fl)∧w.cell? ⟨g,2,none⟩=some (W32 c.dl)∧w.cell? ⟨g,3,none⟩=some (W64 c.nx)∧(∀ j v,(c.ma.val.map W8)[j]?=some v→w.cell? ⟨g,4+j,none⟩=some v):=
 ⟨h.cellD 0 rfl,h.cellD 1 rfl,h.cellD 2 rfl,h.cellD 3 rfl,fun j v hv=>h.cellD _ (by rw[show 4+j=j+1+1+1+1 by omega,CC];exact hv)⟩
set_option maxRecDepth 100000 in
set_option maxHeartbeats 1000000 in
theorem QhP (c:Cmd) (w:World):Calls Tryz.prog 144 #[.agg (CC c).toArray] w fun e w'=>e= .returned (.bool (Qcy c))∧Later w w':=by
 have hb:Blk (w.alloc (.cells (CC c).toArray 64)) w.heap.size 64 (CC c):=Blk.new _ _ _
 obtain⟨c0,_,_,c3,c4⟩:=QfT hb
 have L:=Qaa w (.cells (CC c).toArray 64)
 have hz:=Qpk
 rw[Qcy,show Qym 16 (0:UInt8)=Qbt.val from rfl]
 clear hb
 go_enter Tryz.func144,Tryz.ntmps144
 generalize c.kd=kd at *
 generalize c.nx=nx at *
 generalize c.ma=mk at *
 generalize Qbt=z at *
 have hn:(nx != 0)= !(nx==0):=rfl
 rw[hn]
 cases h1:(kd==1)<;>cases h2:(nx==0)<;>cases h4:(kd==4)
 all_goals
  go_wp2_with (first
   | (refine QtL rfl _ rfl c4 rfl ?_)
   | (refine Qao rfl _ _ rfl (z.val.map W8) (by simp only[QyK,QyU];exact hz) ?_)
   | fail)
  go_ret
  exact⟨rfl,L⟩
set_option maxRecDepth 100000 in
set_option maxHeartbeats 1000000 in
theorem QhK (c:Cmd) (w:World):Calls Tryz.prog 146 #[.agg (CC c).toArray] w fun e w'=>e= .returned (.int .i64 (cmdE c:Nat))∧Later w w':=by
 have hb:Blk (w.alloc (.cells (CC c).toArray 64)) w.heap.size 64 (CC c):=Blk.new _ _ _
 obtain⟨c0,_,c2,_,_⟩:=QfT hb
 have L:=Qaa w (.cells (CC c).toArray 64)
 have hS:=hid (QhP c)
 have hE:cmdE c=if c.kd<1∨4<c.kd then 1 else if Qcy c=false then 3 else if 1000000<c.dl then 11 else 0:=rfl
 generalize Qcy c=sh at *
 by_cases h1:c.kd<1
 ·rw[if_pos (.inl h1)]at hE
  rw[hE]
  clear hE
  go_enter Tryz.func146,Tryz.ntmps146
  go_wp2_with fail
  go_ret
  exact⟨rfl,L⟩
 by_cases h4:4<c.kd
 ·rw[if_pos (.inr h4)]at hE
  rw[hE]
  clear hE
  go_enter Tryz.func146,Tryz.ntmps146
  go_wp2_with fail
  go_ret
  exact⟨rfl,L⟩
 rw[if_neg (by rintro (h|h)<;>contradiction)]at hE
 cases sh
 ·rw[if_pos rfl]at hE
  rw[hE]
  clear hE
  go_enter Tryz.func146,Tryz.ntmps146
  go_wp2_with (first
   | (refine QcC rfl _ rfl hb rfl ?_)
   | fail)
  refine (hS.out _).mono ?_
  rintro e w1 ⟨rfl,l1⟩
  go_wp2_with fail
  go_ret
  exact⟨rfl,L.trans l1⟩
 rw[if_neg (by decide)]at hE
 by_cases hd:1000000<c.dl
 ·rw[if_pos hd]at hE
  rw[hE]
  clear hE
  go_enter Tryz.func146,Tryz.ntmps146
  go_wp2_with (first
   | (refine QcC rfl _ rfl hb rfl ?_)
   | fail)
  refine (hS.out _).mono ?_
  rintro e w1 ⟨rfl,l1⟩
  replace c2:=(l1.below.cell (p:=⟨w.heap.size,2,none⟩) hb.lt).trans c2
  go_wp2_with fail
  go_ret
  exact⟨rfl,L.trans l1⟩
 ·rw[if_neg hd]at hE
  rw[hE]
  clear hE
  go_enter Tryz.func146,Tryz.ntmps146
  go_wp2_with (first
   | (refine QcC rfl _ rfl hb rfl ?_)
   | fail)
  refine (hS.out _).mono ?_
  rintro e w1 ⟨rfl,l1⟩
  replace c2:=(l1.below.cell (p:=⟨w.heap.size,2,none⟩) hb.lt).trans c2
  go_wp2_with fail
  go_ret
  exact⟨rfl,L.trans l1⟩
theorem Qtx {pre post:List Value} {xs:List UInt8} {off k:Nat} (hp:pre.length=off) (h:k<xs.length) (x:UInt8) (hx:xs[k]?=some x):(pre++xs.map W8++post)[off+k]?=some (W8 x):=by
 rw[QyE,Qyz (by omega),show off+k-pre.length=k by omega,QyH (by rw[Qyn];exact h),QyF,hx]
 rfl
theorem QsX {pre post:List Value} {xs:List UInt8} {off k:Nat} (hp:pre.length=off) (h:k<xs.length) (x:UInt8):(pre++xs.map W8++post).set (off+k) (W8 x)=pre++(xs.set k x).map W8++post:=by
 rw[QyE,QyW _ _ (by omega),show off+k-pre.length=k by omega,List.set_append_left _ _ (by rw[Qyn];exact h),Qbq,QyE]
set_option maxRecDepth 100000 in
set_option maxHeartbeats 2000000 in
theorem Qj5 (g off n c c2:Nat) (t:TypeId) (A:Option Addr) (pre post:List Value) (xs ys:List UInt8) (w:World) (hb:Blk w g t (pre++xs.map W8++post)) (hp:pre.length=off) (hxl:xs.length=n) (hy:RdB w A n ys) (hoff:0<n→Off A g) (hn:n≤1048576):
 Calls Tryz.prog 166 #[.slice (some ⟨g,off,none⟩) n c,.slice A n c2] w fun e w'=>e= .returned (.tuple #[])∧Blk w' g t (pre++(xorB xs ys).map W8++post)∧Only g w w':=by
 have hyl:=hy.len
 have hlen:xs.length=ys.length:=by omega
 have hX:=hid (fun k=>Qf7 hlen k)
 have hG:=hid (fun k (h:k<xs.length)=>QjD hlen h)
 have hS:=hid (fun k (h:k<xs.length)=>QhV hlen h)
 have hA:=hid (QiU hlen)
 have hN:=hid (Qh7 xs ys)
 go_enter Tryz.func166,Tryz.ntmps166
 go_wp2_with fail
 go_loopw [8] (fun i wr=>∃k:Nat,k≤n∧i= .int .i64 k∧Blk wr g t (pre++(Qfi xs ys k).map W8++post)∧Only g w wr) (fun i _=>n-(intOf i).toNat)
 case atStart=>exact⟨0,by omega,rfl,by rw[hN.out];exact hb,World.grownBy.refl w _⟩
 case round=>
  clear hb
  obtain⟨k,hk,rfl,hb,ho'⟩:=hrel
  by_cases hlt:k<n
  ·have hy':RdB wr A n ys:=Rd.only hy ho' (fun b o e h=>hoff (by omega) _ e h)
   obtain⟨b2,o2,rfl,hb2,hc2⟩:=RdB.at_ hy' (by omega)
   have c1:=hc2 k hlt
   have hxk:=hX.out k (by omega)
   have d1:=hb.cellD (off+k) (Qtx hp (by omega) _ (hG.out k (by omega)))
   have HS:=hid (hS.out k (by omega))
   clear hc2
   generalize xs.getD k 0=x at *
   generalize ys.getD k 0=y at *
   go_wp2_with (first
    | (refine Qae rfl rfl _ _ _ rfl g (off+k) _ _ hb rfl (by simp only[Qyv,Qyn];omega) rfl Qbv ?_;intro v' w5 hv' hb5 ho5;simp[go_sem]at hv';subst hv')
    | fail)
   rw[QsX hp (by omega),HS.out]at hb5
   go_roundw
   case rel=>exact⟨k+1,by omega,by go_num,hb5,ho'.trans ho5⟩
   case measure=>simp[intOf];omega
  ·obtain rfl:n=k:=by omega
   rw[←hxl,hA.out]at hb
   go_wp2_with fail
   exact bodyPost_end (results_none rfl _ _ _) rfl ⟨rfl,hb,ho'⟩
theorem QrG (g off n c c2:Nat) (t:TypeId) (A:Option Addr) (bs ys:List UInt8) (rest:List Value) (w:World) (hb:Blk w g t (bs.map W8++rest)) (hbl:bs.length=n) (h32:32≤n) (hoff:off=32∨(off=0∧n=32)) (hy:RdB w A (n-32) ys) (hA:0<n-32→Off A g) (hn:n≤1048576):
 Calls Tryz.prog 166 #[.slice (some ⟨g,off,none⟩) (n-32) c,.slice A (n-32) c2] w fun e w'=>e= .returned (.tuple #[])∧Blk w' g t ((bs.take 32++xorB (bs.drop 32) ys).map W8++rest)∧Only g w w':=by
 have e0:bs.map W8++rest=(bs.take 32).map W8++(bs.drop 32).map W8++rest:=by rw[←Qy6,QyV]
 rcases hoff with rfl|⟨rfl,rfl⟩
 ·rw[e0]at hb
  refine (Qj5 g 32 (n-32) c c2 t A _ rest (bs.drop 32) ys w hb (by rw[Qyn,QyL];omega) (by rw[Qy0];omega) hy hA (by omega)).mono ?_
  rintro e w' ⟨he,hb',ho⟩
  exact⟨he,by rw[Qy6];exact hb',ho⟩
 ·have hd:bs.drop 32=[]:=Qy5 (by rw[Qy0];omega)
  have hyn:ys=[]:=Qy5 hy.len
  refine (Qj5 g 0 0 c c2 t A [] (bs.map W8++rest) [] ys w hb rfl rfl hy hA (by omega)).mono ?_
  rintro e w' ⟨he,hb',ho⟩
  refine⟨he,?_,ho⟩
  subst hyn
  rw[hd,show xorB [] []=[] from rfl,QyZ,Qyx (by omega)]
  exact hb'
def Qdl (K:List UInt8) (r:Nat) (bs:List UInt8):List UInt8:=
 if r=2∨r=4 then xorB (bs.take 32) (Qbb K (bs.drop 32))++bs.drop 32 else bs.take 32++xorB (bs.drop 32) (chaS (xorB K (bs.take 32)) (bs.length-32))
theorem Qef (K:List UInt8) (r:Nat) (bs:List UInt8) (h:32≤bs.length):(Qdl K r bs).length=bs.length:=by
 unfold Qdl
 split
 ·rw[Qyv,QaT (by rw[Qax,QyL];omega),Qax,Qy0]
  omega
 ·rw[Qyv,QaT (by rw[QaX,Qy0]),QaX,QyL]
  omega
theorem QkQ (K:List UInt8) (r:Nat) (bs:List UInt8) (h:32≤bs.length):Qdl K r (Qdl K r bs)=bs:=by
 by_cases hr:r=2∨r=4
 ·have l1:(bs.take 32).length=(Qbb K (bs.drop 32)).length:=by rw[Qax,QyL];omega
  have l2:(xorB (bs.take 32) (Qbb K (bs.drop 32))).length=32:=by rw[QaT l1,Qax]
  rw[Qdl,if_pos hr,Qdl,if_pos hr,QAj l2,Qzg l2,QhC l1,QyV]
 ·have l0:(bs.take 32).length=32:=by rw[QyL];omega
  have l1:(bs.drop 32).length=(chaS (xorB K (bs.take 32)) (bs.length-32)).length:=by rw[QaX,Qy0]
  have l2:(bs.take 32++xorB (bs.drop 32) (chaS (xorB K (bs.take 32)) (bs.length-32))).length=bs.length:=by
   have:=Qef K r bs h
   rwa [Qdl,if_neg hr]at this
  rw[Qdl,if_neg hr,Qdl,if_neg hr,l2,QAj l0,Qzg l0,QhC l1,QyV]
theorem QiN:(Tryz.prog.info? 30).map (·.size)=some 32:=by kernel_rfl
theorem QiF {w:World} {g:Nat} {t:TypeId} {bs:List UInt8} {n:Nat} (h:Blk w g t (bs.map W8)) (hn:bs.length=n):RdB w (some ⟨g,0,none⟩) n bs:=h.rd (by rw[Qyn,hn])
set_option maxRecDepth 100000 in
set_option maxHeartbeats 4000000 in
theorem Qqg (g n c:Nat) (K bs:List UInt8) (r:Nat) (rest:List Value) (w:World) (hb:Blk w g 5 (bs.map W8++rest)) (hbl:bs.length=n) (h32:32≤n) (hn:n≤4096) (hc:n≤c) (hK:K.length=32) (h1:1≤r) (h4:r≤4):
 Calls Tryz.prog 133 #[.slice (some ⟨g,0,none⟩) n c,.agg (K.map W8).toArray,.int .i64 r] w fun e w'=>e= .returned (.tuple #[])∧Blk w' g 5 ((Qdl K r bs).map W8++rest)∧Only g w w':=by
 have hcl:∀W,(Instr.sliceAt 22 (.slice (some ⟨g,0,none⟩) n c) none (some (.int .i64 32)) none).run Tryz.prog W= .ok (.slice (some ⟨g,0,none⟩) 32 c) W:=fun W=>QoO (some ⟨g,0,none⟩) n c .i64 32 (by omega) W
 obtain⟨off,hoff,hcr⟩:∃off,(off=32∨(off=0∧n=32))∧∀W,(Instr.sliceAt 22 (.slice (some ⟨g,0,none⟩) n c) (some (.int .i64 32)) none none).run Tryz.prog W= .ok (.slice (some ⟨g,off,none⟩) (n-32) (c-32)) W:=by
  have h:=fun W=>QgC (some ⟨g,0,none⟩) n c .i64 32 h32 W
  unfold cutA at h
  by_cases hc32:c=32
  ·rw[if_pos hc32]at h
   exact⟨0,.inr ⟨rfl,by omega⟩,h⟩
  ·rw[if_neg hc32]at h
   exact⟨32,.inl rfl,h⟩
 have hrdR:∀w',Blk w' g 5 (bs.map W8++rest)→RdB w' (some ⟨g,off,none⟩) (n-32) (bs.drop 32):=fun w' hb'=>by
  rcases hoff with rfl|⟨rfl,rfl⟩
  ·have:=(QiK hb' hbl).cut (k:=32) (c:=n+33) h32 (by omega)
   rw[cutA,if_neg (by omega)]at this
   exact this
  ·rw[Qy5 (show (bs.drop 32).length=0 by rw[Qy0];omega)]
   exact⟨rfl,fun h=>absurd h (by omega)⟩
 have hrdR:=hid hrdR
 have hm1:=hid (fun g off n c c2 t A pre post xs ys w hb hp hxl hy ho hn=>Qj5 g off n c c2 t A pre post xs ys w hb hp hxl hy ho hn)
 have hm2:=hid (fun c c2 A ys w hb hy hA=>QrG g off n c c2 5 A bs ys rest w hb hbl h32 hoff hy hA (by omega))
 replace hoff:=hid hoff
 have htl:(bs.take 32).length=32:=by rw[QyL];omega
 have hdl:(bs.drop 32).length=n-32:=by rw[Qy0];omega
 by_cases hr:r=2∨r=4
 ·have hT:=hid (show Qdl K r bs=xorB (bs.take 32) (Qbb K (bs.drop 32))++bs.drop 32 by rw[Qdl,if_pos hr])
  have hG:=Qax K (bs.drop 32)
  have hTag:=hid (fun A B c d w h1 hc h2=>Qiw A B 32 c 1 d K [bs.drop 32] w h1 hc (by omega) h2 (by omega) (by rw[QaW,hdl];omega))
  rw[QaW]at hTag
  generalize Qdl K r bs=TB at *
  generalize Qbb K (bs.drop 32)=G at *
  rcases hr with rfl|rfl
  all_goals
   go_enter Tryz.func133,Tryz.ntmps133
   go_wp2_with fail
   have B1:=Qbi w 30 (K.map W8)
   generalize w.alloc (.cells (K.map W8).toArray 30)=w1 at *
   refine Qaf [] [0,1,2,3,4,5] [] (by as_aux_lemma=>kernel_rfl) (by as_aux_lemma=>kernel_rfl) (by intro _ _ d _ _ h;cases d<;>exact h) ?_
   simp only[Qaj,pick,Qyo,Qyp,Qyr,Qyu,Qyt]
   repeat (go_big_quiet_step (fail))
   refine wpQuiet_nil ?_
   go_wp2_with fail
   have B2:=B1.later ((Qaa w1 (.cells #[.slice (some ⟨g,off,none⟩) (n-32) (c-32)] 22)).trans (Qad _))
   have hb2:=hb.later B2.lat
   have hpp:=Qeq (Blk.new w1 22 [.slice (some ⟨g,off,none⟩) (n-32) (c-32)]).drew (Qcz (c:=c-32) (hrdR.out _ hb2) (by omega))
   (with_reducible refine (hTag.out _ _ _ _ _ (QiF (B2.nth 0 rfl) hK) (Qyw _) hpp).mono ?_);rintro e w3 ⟨rfl,j3⟩
   go_wp2_with (first
    | (refine QfQ 32 rfl rfl _ _ rfl (Blk.new w3 _ (Qym 32 (.int .u8 0))) rfl rfl QiN hG rfl ?_;intro w4 hb4 ho4)
    | fail)
   have L4:=B2.lat.trans ((j3.trans (Qaa w3 _)).only ho4 j3.size)
   have hb5:=hb.later L4
   rw[show bs.map W8++rest=[]++(bs.take 32).map W8++((bs.drop 32).map W8++rest) by rw[Qyt,←QyE,←Qy6,QyV]]at hb5
   have hgl:=hb.lt
   have hgs:=(B2.lat.trans j3).size
   (refine (hm1.out g 0 32 _ _ _ _ _ _ _ _ _ hb5 rfl htl (QiF hb4 hG) (fun _ ad e=>by cases e;show w3.heap.size≠g;omega) (by omega)).mono ?_);rintro e w5 ⟨rfl,hb6,ho6⟩
   rw[Qyt,←QyE,←Qy6,←hT.out]at hb6
   go_wp2_with fail
   (try simp only[Exit.inBlock,Exit.then])
   exact bodyPost_ret (results_none rfl _ _ _) rfl ⟨rfl,hb6,L4.thenOnly ho6⟩
 ·have hT:=hid (show Qdl K r bs=bs.take 32++xorB (bs.drop 32) (chaS (xorB K (bs.take 32)) (n-32)) by rw[Qdl,if_neg hr,hbl])
  have hr':r=1∨r=3:=by omega
  clear hr
  have hxl:(xorB K (bs.take 32)).length=32:=by rw[QaT (by omega),htl]
  have hSt:=hid (fun A c w h=>QhT A c (n-32) (xorB K (bs.take 32)) w h (by omega))
  generalize Qdl K r bs=TB at *
  generalize hXe:xorB K (bs.take 32)=X at *
  replace hXe:=hid hXe
  generalize chaS X (n-32)=ST at *
  rcases hr' with rfl|rfl
  all_goals
   go_enter Tryz.func133,Tryz.ntmps133
   go_wp2_with fail
   have B1:=(Qbi w 30 (K.map W8)).drew
   generalize w.alloc (.cells (K.map W8).toArray 30)=w1 at *
   refine Qaf [] [0,1,2,3,4,5] [] (by as_aux_lemma=>kernel_rfl) (by as_aux_lemma=>kernel_rfl) (by intro _ _ d _ _ h;cases d<;>exact h) ?_
   simp only[Qaj,pick,Qyo,Qyp,Qyr,Qyu,Qyt]
   repeat (go_big_quiet_step (fail))
   refine wpQuiet_nil ?_
   go_wp2_with fail
   have hb1:=hb.later B1.lat
   have hgl:=hb.lt
   have hk1:=B1.nth 0 rfl
   (refine (hm1.out w.heap.size 0 32 _ _ _ _ [] [] K (bs.take 32) _ (by rw[Qyt,QyZ];exact hk1) rfl hK ((QiK hb1 hbl).take h32) (fun _ ad e=>by cases e;show g≠w.heap.size;omega) (by omega)).mono ?_);rintro e w5 ⟨rfl,hk2,ho2⟩
   rw[Qyt,QyZ,hXe.out]at hk2
   have B2:=B1.write 0 rfl ho2 hk2
   have hb2:=hb.later B2.lat
   go_wp2_with fail
   (refine (hSt.out _ _ _ (QiF hk2 hxl)).mono ?_);rintro e w6 ⟨A6,c6,rfl,hown6,j6⟩
   go_wp2_with fail
   have hgs:=B2.lat.size
   (refine (hm2.out _ _ _ ST _ (hb2.later j6) hown6.rd (fun _ ad e=>by subst e;have:=(hown6.lt ad.block rfl).1;omega)).mono ?_);rintro e w7 ⟨rfl,hb7,ho7⟩
   rw[←hT.out]at hb7
   go_wp2_with fail
   exact bodyPost_end (results_none rfl _ _ _) rfl ⟨rfl,hb7,(B2.lat.trans j6).thenOnly ho7⟩
abbrev lab1:ByteArray:=⟨#[119,105,100,101,49]⟩
abbrev lab2:ByteArray:=⟨#[119,105,100,101,50]⟩
abbrev lab3:ByteArray:=⟨#[119,105,100,101,51]⟩
abbrev lab4:ByteArray:=⟨#[119,105,100,101,52]⟩
def labW (r:Int):ByteArray:=if r=1 then lab1 else if r=2 then lab2 else if r=3 then lab3 else lab4
def okR (rs:List Int):Prop:=∀r∈rs,1≤r∧r≤4
instance (rs:List Int):Decidable (okR rs):=by unfold okR;infer_instance
def fitW (key bs:List UInt8):Prop:=key.length=32∧32≤bs.length∧bs.length≤4096
instance (key bs:List UInt8):Decidable (fitW key bs):=by unfold fitW;infer_instance
def Qcw (key:List UInt8) (rs:List Int) (bs:List UInt8):List UInt8:=rs.foldl (fun b r=>Qdl (derB key (labW r)) r.toNat b) bs
theorem Qcm (key:List UInt8):∀(rs:List Int) (bs:List UInt8),32≤bs.length→(Qcw key rs bs).length=bs.length
 | [],_,_=>rfl
 | r :: rs,bs,h=>by
   show (Qcw key rs (Qdl _ _ bs)).length=_
   have:=Qef (derB key (labW r)) r.toNat bs h
   rw[Qcm key rs _ (by omega),this]
theorem Qf6 (key:List UInt8) (rs rs':List Int) (bs:List UInt8):Qcw key (rs++rs') bs=Qcw key rs' (Qcw key rs bs):=by rw[Qcw,List.foldl_append];rfl
theorem QfH (key:List UInt8):∀(rs:List Int) (bs:List UInt8),32≤bs.length→Qcw key rs.reverse (Qcw key rs bs)=bs
 | [],_,_=>rfl
 | r :: rs,bs,h=>by
   have hl:=Qef (derB key (labW r)) r.toNat bs h
   rw[List.reverse_cons,Qf6]
   show Qcw key [r] (Qcw key rs.reverse (Qcw key rs (Qdl (derB key (labW r)) r.toNat bs)))=bs
   rw[QfH key rs _ (by omega)]
   exact QkQ _ _ _ h
def QdS (key bs:List UInt8) (rs:List Int):Nat:=if okR rs then (if fitW key bs then 0 else 2) else 1
def QcE (key bs:List UInt8) (rs:List Int):List UInt8:=if okR rs then (if fitW key bs then Qcw key rs bs else []) else []
theorem QdL (B:Option Addr) (m d:Nat) (w:World):
 Calls Tryz.prog 99 #[.slice B m d] w fun e w'=>e= .returned (.bool (decide (32≤m∧m≤4096)))∧w'=w:=by
 by_cases h1:32≤m
 ·by_cases h2:m≤4096
  ·have e1:(32:Int)≤(m:Int):=by omega
   have e2:(m:Int)≤4096:=by omega
   rw[decide_eq_true (show 32≤m∧m≤4096 from ⟨h1,h2⟩)]
   go_enter Tryz.func99,Tryz.ntmps99
   go_wp2
   go_ret
   exact⟨rfl,rfl⟩
  ·have e1:(32:Int)≤(m:Int):=by omega
   have e2: ¬(m:Int)≤4096:=by omega
   rw[decide_eq_false (show ¬(32≤m∧m≤4096) from fun h=>h2 h.2)]
   go_enter Tryz.func99,Tryz.ntmps99
   go_wp2
   go_ret
   exact⟨rfl,rfl⟩
 ·have e1: ¬(32:Int)≤(m:Int):=by omega
  rw[decide_eq_false (show ¬(32≤m∧m≤4096) from fun h=>h1 h.1)]
  go_enter Tryz.func99,Tryz.ntmps99
  go_wp2
  go_ret
  exact⟨rfl,rfl⟩
theorem Qo7 (A B:Option Addr) (n c m d:Nat) (w:World):
 Calls Tryz.prog 132 #[.slice A n c,.slice B m d] w fun e w'=>e= .returned (.bool (decide (n=32∧32≤m∧m≤4096)))∧w'=w:=by
 have hf:=hid (QdL B m d)
 by_cases h0:n=32
 ·subst h0
  rw[show decide (32=32∧32≤m∧m≤4096)=decide (32≤m∧m≤4096) by simp]
  go_enter Tryz.func132,Tryz.ntmps132
  go_wp2_with fail
  (with_reducible refine (hf.out _).mono ?_);rintro e w1 ⟨rfl,rfl⟩
  go_wp2_with fail
  go_ret
  exact⟨by simp,rfl⟩
 ·have e1:((n:Int)==32)=false:=by simp;omega
  rw[decide_eq_false (show ¬(n=32∧32≤m∧m≤4096) from fun h=>h0 h.1)]
  go_enter Tryz.func132,Tryz.ntmps132
  go_wp2_with fail
  go_ret
  exact⟨by simp,rfl⟩
theorem QnN {key bs:List UInt8} {rs:List Int} (h: ¬okR rs):QcE key bs rs=[]:=by rw[QcE,if_neg h]
theorem Qop {key bs:List UInt8} {rs:List Int} (h: ¬okR rs):QdS key bs rs=1:=by rw[QdS,if_neg h]
theorem QkJ {key bs:List UInt8} {rs:List Int} (h:okR rs) (h2: ¬fitW key bs):QcE key bs rs=[]:=by rw[QcE,if_pos h,if_neg h2]
theorem Qka {key bs:List UInt8} {rs:List Int} (h:okR rs) (h2: ¬fitW key bs):QdS key bs rs=2:=by rw[QdS,if_pos h,if_neg h2]
theorem Qe8 {key bs:List UInt8} {rs:List Int} (h:okR rs) (h2:fitW key bs):QcE key bs rs=Qcw key rs bs:=by rw[QcE,if_pos h,if_pos h2]
theorem Qfk {key bs:List UInt8} {rs:List Int} (h:okR rs) (h2:fitW key bs):QdS key bs rs=0:=by rw[QdS,if_pos h,if_pos h2]
def intV (r:Int):Value:=.int .i64 r
theorem Qvc {w:World} {C:Option Addr} {k:Nat} {rs:List Int} (h:Rd w C k (rs.map intV)) {j:Nat} (hj:j<k):∃b o,C=some ⟨b,o,none⟩∧b<w.heap.size∧∀w',Later w w'→w'.cell? ⟨b,o+j,none⟩=some (.int .i64 (rs.getD j 0)):=by
 have hl:rs.length=k:=by have:=h.1;rwa [Qyn]at this
 obtain⟨b,o,e,hb,hc⟩:=h.2 (by omega)
 refine⟨b,o,e,hb,fun w' hl'=>(hl'.below.cell (p:=⟨b,o+j,none⟩) hb).trans (hc j _ ?_)⟩
 rw[QyF,Qyq (show j<rs.length by omega),Qys,Qyq (show j<rs.length by omega)]
 rfl
theorem QmE (key:List UInt8) (rs:List Int) (bs:List UInt8) (j:Nat) (h:j<rs.length):Qcw key (rs.take (j+1)) bs=Qdl (derB key (labW (rs.getD j 0))) (rs.getD j 0).toNat (Qcw key (rs.take j) bs):=by
 rw[QyQ h,Qf6,Qys,Qyq h]
 rfl
def Qnv (s:List UInt8):List UInt8:=QcA s [lab1,lab2,lab3,lab4] 4
theorem Qp1 (s:List UInt8) (r:Int) (h1:1≤r) (h4:r≤4):(Qnv s).drop ((r.toNat-1)*32)=derB s (labW r)++((Qnv s).drop ((r.toNat-1)*32)).drop 32:=by
 have l1:=Qaw s lab1
 have l2:=Qaw s lab2
 have l3:=Qaw s lab3
 have l4:=Qaw s lab4
 have e:Qnv s=derB s lab1++(derB s lab2++(derB s lab3++derB s lab4)):=by simp[Qnv,QcA]
 have hr:r=1∨r=2∨r=3∨r=4:=by omega
 rw[e]
 generalize hd1:derB s lab1=d1 at *
 generalize hd2:derB s lab2=d2 at *
 generalize hd3:derB s lab3=d3 at *
 generalize hd4:derB s lab4=d4 at *
 rcases hr with rfl|rfl|rfl|rfl
 ·show (d1++_).drop 0=derB s lab1++((d1++_).drop 0).drop 32
  rw[hd1,Qzn,Qzg l1]
 ·show (d1++_).drop 32=derB s lab2++((d1++_).drop 32).drop 32
  rw[hd2,Qzg l1,Qzg l2]
 ·show (d1++_).drop 64=derB s lab3++((d1++_).drop 64).drop 32
  rw[hd3,show (64:Nat)=32+32 from rfl,←QAf,Qzg l1,Qzg l2,Qzg l3]
 ·show (d1++_).drop 96=derB s lab4++((d1++_).drop 96).drop 32
  rw[hd4,show (96:Nat)=32+(32+32) from rfl,←QAf,←QAf,Qzg l1,Qzg l2,Qzg l3]
  have:d4.drop 32=[]:=List.drop_eq_nil_of_le (by omega)
  rw[this,QyZ]
theorem QqE {w:World} {base n c:Nat} {A:Option Addr} {bs:List UInt8} (h:OwnB w base A n c bs):c≤maxLen:=by
 rcases h.2 with ⟨hv,_⟩|⟨g2,cap,cur,hv,_,_,_,hm,_⟩
 ·cases hv
  exact Nat.zero_le _
 ·cases hv
  exact hm
theorem Quq (g n c:Nat) (K bs:List UInt8) (r:Nat) (i:Int) (hi:i=(r:Int)) (rest:List Value) (w:World) (hb:Blk w g 5 (bs.map W8++rest)) (hbl:bs.length=n) (h32:32≤n) (hn:n≤4096) (hc:n≤c) (hK:K.length=32) (h1:1≤r) (h4:r≤4):
 Calls Tryz.prog 133 #[.slice (some ⟨g,0,none⟩) n c,.agg (K.map W8).toArray,.int .i64 i] w fun e w'=>e= .returned (.tuple #[])∧Blk w' g 5 ((Qdl K r bs).map W8++rest)∧Only g w w':=by
 subst hi
 exact Qqg g n c K bs r rest w hb hbl h32 hn hc hK h1 h4
theorem QqG {w:World} {g:Nat} {t:TypeId} {ks:List UInt8} (h:Blk w g t (ks.map W8)) {q:Nat} {K r:List UInt8} (hd:ks.drop (q*32)=K++r) {j:Nat} {v:Value} (hv:(K.map W8)[j]?=some v):w.cell? ⟨g,q*32+j,none⟩=some v:=by
 refine h.cellD _ ?_
 rw[QyF,QzR]at hv ⊢
 obtain⟨x,hx,rfl⟩:=hv
 refine⟨x,?_,rfl⟩
 rw[←QzC,hd,QyH (QyC.1 hx).1]
 exact hx
set_option maxRecDepth 100000 in
set_option maxHeartbeats 8000000 in
theorem Qg9 (A B C:Option Addr) (n c m d k e0:Nat) (key bs:List UInt8) (rs:List Int) (w:World) (hk:RdB w A n key) (hc:n≤c) (hb:RdB w B m bs) (hd:m≤d) (hr:Rd w C k (rs.map intV)) (hn:n≤2097152) (hm:m≤2097152) (hk2:k≤2097152):
 Calls Tryz.prog 100 #[.slice A n c,.slice B m d,.slice C k e0] w fun e w'=>Later w w'∧∃A' c',e= .returned (.tuple #[.slice A' (QcE key bs rs).length c',.int .i64 (QdS key bs rs:Nat)])∧OwnB w' w.heap.size A' (QcE key bs rs).length c' (QcE key bs rs):=by
 have hkl:=hk.len
 have hbl:=hb.len
 have hrl:rs.length=k:=by have:=hr.1;rwa [Qyn]at this
 have hbad:=hid (fun h=>And.intro (@QnN key bs rs h) (@Qop key bs rs h))
 have hunf:=hid (fun h h2=>And.intro (@QkJ key bs rs h h2) (@Qka key bs rs h h2))
 have hfit:=hid (fun h h2=>And.intro (@Qe8 key bs rs h h2) (@Qfk key bs rs h h2))
 have hat:=hid (fun j (hj:j<k)=>Qvc hr hj)
 have hff:=hid (Qo7 A B n c m d)
 generalize QcE key bs rs=WB at *
 generalize QdS key bs rs=WE at *
 go_enter Tryz.func100,Tryz.ntmps100
 go_wp2_with fail
 go_loopw [16] (fun i wr=>∃j:Nat,j≤k∧i= .int .i64 j∧wr=w∧Hid (∀ t,t<j→1≤rs.getD t 0∧rs.getD t 0≤4)) (fun i _=>k-(intOf i).toNat)
 case atStart=>exact⟨0,by omega,rfl,rfl,hid (fun t h=>by omega)⟩
 case round=>
  obtain⟨j,hj,rfl,rfl,hall⟩:=hrel
  by_cases hlt:j<k
  ·obtain⟨b,o,rfl,hbb,hcell⟩:=hat.out j hlt
   have c1:=hcell wr (Later.refl _)
   clear hcell
   have hmem:rs.getD j 0∈rs:=by rw[Qys,Qyq (show j<rs.length by omega)];exact QzH _
   have hbd: ¬(1≤rs.getD j 0∧rs.getD j 0≤4)→Hid (WB=[]∧WE=1):=fun h=>hid (hbad.out (fun hok=>h (hok _ hmem)))
   have hst:1≤rs.getD j 0→rs.getD j 0≤4→Hid (∀ t,t<j+1→1≤rs.getD t 0∧rs.getD t 0≤4):=fun h1 h2=>hid (fun t ht=>by
    by_cases e:t=j
    ·subst e;exact⟨h1,h2⟩
    ·exact hall.out t (by omega))
   clear hmem
   generalize rs.getD j 0=r at *
   by_cases h1:r<1
   ·have hB:=hbd (by omega)
    clear hbd hst
    go_wp2_with fail
    go_ret2
    refine⟨Later.refl _,none,0,?_,?_⟩
    ·rw[hB.out.1,hB.out.2];rfl
    ·rw[hB.out.1];exact Qdo _ _ _
   ·by_cases h2:4<r
    ·have hB:=hbd (by omega)
     clear hbd hst
     go_wp2_with fail
     go_ret2
     refine⟨Later.refl _,none,0,?_,?_⟩
     ·rw[hB.out.1,hB.out.2];rfl
     ·rw[hB.out.1];exact Qdo _ _ _
    ·have hS:=hst (by omega) (by omega)
     clear hbd hst
     go_wp2_with fail
     go_roundw
     case rel=>exact⟨j+1,by omega,by go_num,trivial,hS⟩
     case measure=>simp[intOf];omega
  ·obtain rfl:k=j:=by omega
   have hok:okR rs:=fun r hr'=>by
    obtain⟨t,ht⟩:=List.getElem?_of_mem hr'
    have htl:=(QyC.1 ht).1
    have:=hall.out t (by omega)
    rwa [Qys,ht]at this
   clear hbad
   go_wp2_with fail
   (with_reducible refine (hff.out _).mono ?_);rintro e w1 ⟨rfl,rfl⟩
   by_cases hf:n=32∧32≤m∧m≤4096
   ·rw[decide_eq_true hf]
    have hF:=hid (hfit.out hok ⟨by rw[hkl];exact hf.1,by rw[hbl];exact hf.2⟩)
    obtain⟨rfl,hm32,hm4⟩:=hf
    clear hunf hfit
    have hDe:=hid (fun B d w h1 h2=>Qh5 A B 32 c 4 d key [lab1,lab2,lab3,lab4] w h1 hc (by omega) h2 (by omega) (by omega) (by intro x hx;simp only[QyA,QyB,or_false]at hx;rcases hx with rfl|rfl|rfl|rfl<;>decide))
    have hKW:=hid (fun r h1 h4=>Qp1 key r h1 h4)
    have hFt:=hid (fun j h=>QmE key rs bs j h)
    have hFl:=hid (fun rs=>Qcm key rs bs (by omega))
    have hDl:=hid (fun r=>Qaw key (labW r))
    have hTu:=hid Quq
    have hCj:=hid (fun A c w h=>QbO A 1 c [bs] w h (by omega) (by rw[QaW];omega))
    rw[QaW,hbl]at hCj
    rw[show QcA key [lab1,lab2,lab3,lab4] 4=Qnv key from rfl]at hDe
    have hF0:=hid (show Qcw key (rs.take 0) bs=bs from rfl)
    go_wp2_with fail
    have J1:=Qaa w1 (.cells #[.string lab1,.string lab2,.string lab3,.string lab4] 9)
    have hst:Strs (w1.alloc (.cells #[.string lab1,.string lab2,.string lab3,.string lab4] 9)) (some ⟨w1.heap.size,0,none⟩) 4 [lab1,lab2,lab3,lab4]:=(Blk.new w1 9 [.string lab1,.string lab2,.string lab3,.string lab4]).rd rfl
    (refine (hDe.out _ _ _ (hk.later J1) hst).mono ?_);rintro e w2 ⟨gK,rfl,hgK,hbK,j2⟩
    go_wp2_with fail
    have J2:=(J1.trans j2).trans (Qaa w2 (.cells #[.slice B m d] 22))
    have hpp:=Qeq (Blk.new w2 22 [.slice B m d]) (Qcz (hb.later J2) hd)
    (with_reducible refine (hCj.out _ _ _ hpp).mono ?_);rintro e w3 ⟨A3,c3,rfl,hown3,j3⟩
    have L3:=J2.trans j3
    have hbK3:=hbK.later ((Qaa w2 (.cells #[.slice B m d] 22)).trans j3)
    have hgKw:w1.heap.size≤gK:=Qy3 J1.size hgK
    replace hown3:=hown3.mono J2.size
    have hmx:=QqE hown3
    obtain⟨gO,rest,rfl,hgO,hbO,hcO,hcc⟩:=QqL hown3 (by omega)
    replace hcO:=hid hcO
    clear J1 hst j2 J2 hpp j3 hown3 hbK hgK
    go_wp2_with fail
    have hgl:=hbO.lt
    go_loopw [39] (fun i wr=>∃j:Nat,j≤k∧i= .int .i64 j∧Blk wr gO 5 ((Qcw key (rs.take j) bs).map W8++rest)∧Blk wr gK 30 ((Qnv key).map W8)∧Later w1 wr) (fun i _=>k-(intOf i).toNat)
    case atStart=>exact⟨0,by omega,rfl,by rw[hF0.out];exact hbO,hbK3,L3⟩
    case round=>
     clear hbO hbK3 L3 hgl
     obtain⟨j,hj,rfl,hbO,hbK,L⟩:=hrel
     by_cases hlt:j<k
     ·obtain⟨b,o,rfl,hbb,hcell⟩:=hat.out j hlt
      have c1:=hcell wr L
      have hrr:=hall.out j hlt
      have HF:=hid (hFt.out j (by omega))
      have hFlj:=hFl.out (rs.take j)
      have hKr:=hKW.out _ hrr.1 hrr.2
      have hDlr:=hDl.out (rs.getD j 0)
      clear hcell
      generalize rs.getD j 0=r at *
      obtain⟨q,rfl⟩:∃q:Nat,r=(q:Int)+1:=⟨(r-1).toNat,by omega⟩
      have hq4:q<4:=by omega
      have hqn:((q:Int)+1).toNat=q+1:=by omega
      rw[hqn]at HF hKr
      rw[Nat.add_sub_cancel]at hKr
      generalize derB key (labW ((q:Int)+1))=Kr at *
      generalize Qcw key (rs.take j) bs=F at *
      replace hKr:=hid hKr
      clear hqn hrr
      go_wp2_with (first
       | (refine Qau rfl 30 _ rfl gK (q*32) (Kr.map W8) ?hc ?hx _ Tryz.underlying30 rfl ?hi ?_;(case hx=>rfl);(case hi=>rw[Qyn,hDlr];exact QiN);(case hc=>intro j v hv;exact QqG hbK hKr.out hv))
       | fail)
      (refine (hTu.out gO m c3 Kr F (q+1) _ (by omega) rest _ hbO (by omega) hm32 hm4 hcc hDlr (by omega) (by omega)).mono ?_);rintro e w5 ⟨rfl,hb5,ho5⟩
      go_wp2_with fail
      go_roundw
      case rel=>exact⟨j+1,by omega,by go_num,by rw[HF.out];exact hb5,hbK.only ho5 (hbK.ne_type hbO (by decide)),L.only ho5 hgO⟩
      case measure=>simp[intOf];omega
     ·obtain rfl:k=j:=by omega
      rw[Qyx (by omega)]at hbO
      have hFl':=hFl.out rs
      rw[←hF.out.1]at hbO hFl'
      have hcw:c3=(WB.map W8++rest).length:=by
       rw[hcO.out,Qyv,Qyv,Qyn,Qyn]
       omega
      have hWl:WB.length=m:=by omega
      have hWE:=hF.out.2
      have hown:=QvW hbO hgO (by rw[←hcw];exact hmx)
      rw[←hcw,Qyn,hWl]at hown
      go_wp2_with fail
      go_ret2
      exact⟨L,_,_,by rw[hWl,hWE];rfl,by rw[hWl];exact hown⟩
   ·rw[decide_eq_false hf]
    have hB:=hid (hunf.out hok (fun h=>hf ⟨by rw[←hkl];exact h.1,by rw[←hbl];exact h.2⟩))
    clear hunf hfit
    go_wp2_with fail
    go_ret2
    refine⟨Later.refl _,none,0,?_,?_⟩
    ·rw[hB.out.1,hB.out.2];rfl
    ·rw[hB.out.1];exact Qdo _ _ _
end Go.Proofs.YtdhgpkdjdmlphaaGreat
namespace Go.Proofs.YtdhgpkdjdmlphaaGreat
open Go.RowKit
abbrev pid (q:Prt):Prt:=q
section
variable {α:Type} (pr:α→Prt)
def tkE (id:UInt64) (ks:List α) (p:Prt):Nat:=
 if p.kd≠1∨prtE p≠0 then 3 else if p.id≠id then 4 else if ks.any (fun q=>(pr q).ct != p.ct||(pr q).ix==p.ix) then 3 else 0
def tkK (id:UInt64) (ks:List α) (x:α):List α:=if tkE pr id ks (pr x)=0 then ks++[x] else ks
end
structure KeptOk (ks:List Prt):Prop where
 good:∀q∈ks,q.kd=1∧prtE q=0
 same:∀q∈ks,∀r∈ks,q.ct=r.ct
 nd:(ks.map (·.ix)).Nodup
theorem Qp8 {p:Prt} (h:prtE p=0):1≤p.ct∧p.ct≤16∧0≤p.ix∧p.ix<p.ct∧p.da.length≤450:=by
 unfold prtE at h
 split at h
 ·cases h
 split at h
 ·cases h
 split at h
 ·cases h
 rename_i h1 h2 h3
 omega
theorem QqU {id:UInt64} {ks:List Prt} {p:Prt} (h:tkE pid id ks p=0):p.kd=1∧prtE p=0∧p.id=id∧(∀ q∈ks,q.ct=p.ct∧q.ix≠p.ix):=by
 unfold tkE at h
 split at h
 ·cases h
 split at h
 ·cases h
 split at h
 ·cases h
 rename_i h1 h2 h3
 refine⟨Classical.not_not.1 fun hc=>h1 (.inl hc),Classical.not_not.1 fun hc=>h1 (.inr hc),Classical.not_not.1 h2,fun q hq=>?_⟩
 have h4:(q.ct != p.ct||q.ix==p.ix)=false:=by
  cases hb:(q.ct != p.ct||q.ix==p.ix) with
  | false=>rfl
  | true=>exact absurd (List.any_eq_true.2 ⟨q,hq,hb⟩) h3
 simp only[Bool.or_eq_false_iff,bne_eq_false_iff_eq,beq_eq_false_iff_ne]at h4
 exact h4
theorem KeptOk.snoc {id:UInt64} {ks:List Prt} {p:Prt} (h:KeptOk ks):KeptOk (tkK pid id ks p):=by
 unfold tkK
 split
 ·rename_i h0
  obtain⟨h1,h2,_,h4⟩:=QqU h0
  refine⟨fun q hq=>?_,fun q hq r hr=>?_,?_⟩
  ·rcases Qz7.1 hq with hq|hq
   ·exact h.good q hq
   ·obtain rfl:q=p:=by simpa using hq
    exact⟨h1,h2⟩
  ·rcases Qz7.1 hq with hq|hq<;>rcases Qz7.1 hr with hr|hr
   ·exact h.same q hq r hr
   ·have e:r=p:=by simpa using hr
    rw[e]
    exact (h4 q hq).1
   ·have e:q=p:=by simpa using hq
    rw[e]
    exact (h4 r hr).1.symm
   ·have e:q=p:=by simpa using hq
    have e':r=p:=by simpa using hr
    rw[e,e']
  ·rw[Qy6,List.nodup_append]
   refine⟨h.nd,by simp,fun a ha b hb=>?_⟩
   obtain rfl:b=p.ix:=by simpa using hb
   obtain⟨q,hq,rfl⟩:=Qzb.1 ha
   exact (h4 q hq).2
 ·exact h
theorem Qhi:∀(n:Nat) (l:List Int),l.Nodup→(∀ i∈l,0≤i∧i<n)→l.length≤n
 | 0,l,_,h=>by
   cases l with
   | nil=>exact Qyw _
   | cons i l=>have:=h i (by simp);omega
 | n+1,l,hn,h=>by
   have hb:(l.erase (n:Int)).length≤n:=by
    refine Qhi n _ (hn.erase _) fun i hi=>?_
    have h1:=h i (List.mem_of_mem_erase hi)
    have h2:i≠(n:Int):=fun e=>by subst e;exact (List.Nodup.not_mem_erase hn) hi
    omega
   have:=List.length_erase_of_mem (a:=(n:Int)) (l:=l)
   by_cases hm:(n:Int)∈l
   ·rw[this hm]at hb
    omega
   ·rw[List.erase_of_not_mem hm]at hb
    omega
theorem KeptOk.le {ks:List Prt} (h:KeptOk ks) {c:Int} (hc:∀q∈ks,q.ct=c) (h0:0≤c):(ks.length:Int)≤c:=by
 have:=Qhi c.toNat (ks.map (·.ix)) h.nd (fun i hi=>by
  obtain⟨q,hq,rfl⟩:=Qzb.1 hi
  have:=Qp8 (h.good q hq).2
  have:=hc q hq
  omega)
 rw[Qyn]at this
 omega
def daAt (ks:List Prt) (i:Nat):List UInt8:=((ks.find? (fun q=>q.ix==(i:Int))).map (·.da)).getD []
def whole (ks:List Prt):List UInt8:=(Qzc ks.length).flatMap fun (i:Nat)=>(ks.filter (fun q=>q.ix==(i:Int))).flatMap (·.da)
structure Arr where
 pt:Prt
 kd:UInt8
 to:UInt64
 tk:Int
 ma:Y16
structure Ltr where
 to:UInt64
 id:UInt64
 tk:Int
 tx:List UInt8
end Go.Proofs.YtdhgpkdjdmlphaaGreat
namespace Go.Proofs.YtdhgpkdjdmlphaaGreat
open Go.RowKit
open Go.BigFrame
abbrev pz0:List Value:=[.int .u8 0,.int .u64 0,.int .i64 0,.int .i64 0,.slice none 0 0]
theorem Qoz:(Tryz.prog.info? 25).map (·.size)=some 5:=by kernel_rfl
theorem QfC (p:Prt) (v:Value):(PaC p v).length=5:=rfl
theorem Qt6 (p:Prt) {v:Value} (h:v.oneCell'=true):∀u∈PaC p v,u.oneCell'=true:=by
 intro u hu
 simp only[PaC,QyA,QyB,or_false]at hu
 rcases hu with rfl|rfl|rfl|rfl|rfl<;>first|rfl|exact h
section
variable {ops:Array Oper} {rest:List Oper} {o:Oper} {a:Act} {w:World} {Q:Exit→Act→World→Prop}
theorem QrT (hgd:o.guard=none) (hd:o.dst=none) (x y:Operand) (ho:o.op= .store 25 x y) {g:Nat} {t:TypeId} {l:List Value} {p:Prt} {v:Value} (hg:Blk w g t l) (hx:a.eval x= .pointer (some ⟨g,0,none⟩)) (hy:a.eval y= .agg (PaC p v).toArray) (hv:v.oneCell'=true) (hl:l.length=5)
 (h:∀w',Blk w' g t (PaC p v)→Only g w w'→wpList Tryz.prog ops Q rest a w'):wpList Tryz.prog ops Q (o :: rest) a w:=
 Qa7 hgd hd _ x y ho g t l _ hg hx hy 5 Qoz rfl hl (Qt6 p hv) h
theorem Qed (hw:Region.wanted o (yielded ops a.tmps)=true) (x:Operand) (ho:o.op= .load 25 x) {g:Nat} {t:TypeId} {p:Prt} {v:Value} (hb:Blk w g t (PaC p v)) (hx:a.eval x= .pointer (some ⟨g,0,none⟩))
 (h:wpList Tryz.prog ops Q rest (a.put o.dst (.agg (PaC p v).toArray)) w):wpList Tryz.prog ops Q (o :: rest) a w:=
 QaB hw _ x ho g 0 _ (fun j v hv=>by rw[QyY];exact hb.cellD _ hv) hx _ Tryz.underlying25 rfl (by rw[QfC];exact Qoz) h
end
theorem QaD {w:World} {g:Nat} {t:TypeId} {p:Prt} {v:Value} (h:Blk w g t (PaC p v)):w.cell? ⟨g,0,none⟩=some (W8 p.kd)∧w.cell? ⟨g,1,none⟩=some (W64 p.id)∧w.cell? ⟨g,2,none⟩=some (.int .i64 p.ix)∧w.cell? ⟨g,3,none⟩=some (.int .i64 p.ct)∧w.cell? ⟨g,4,none⟩=some v:=
 ⟨h.cellD 0 rfl,h.cellD 1 rfl,h.cellD 2 rfl,h.cellD 3 rfl,h.cellD 4 rfl⟩
theorem Qmd (k:UInt8):k=1∨k=2∨k=3∨(k<1∨3<k):=by
 have e1:(1:UInt8).toNat=1:=rfl
 have e2:(2:UInt8).toNat=2:=rfl
 have e3:(3:UInt8).toNat=3:=rfl
 rw[QzU,QzU,←Qzp,←Qzp,←Qzp]
 omega
theorem Qsk (id:UInt64) (ix ct:Int) (da:List UInt8):prtE ⟨1,id,ix,ct,da⟩=if 450<da.length then 2 else if ct<1∨16<ct∨ix<0∨ct≤ix then 3 else 0:=by
 rw[prtE,if_neg (show ¬((1:UInt8)<1∨3<(1:UInt8)) by decide)]
 simp
theorem Qsf (id:UInt64) (ix ct:Int) (da:List UInt8):prtE ⟨2,id,ix,ct,da⟩=if 450<da.length then 2 else if ct<1∨16<ct∨ix<0∨ct≤ix then 3 else if ct≠1 then 3 else if id≠0∨da.length≠0 then 3 else 0:=by
 rw[prtE,if_neg (show ¬((2:UInt8)<1∨3<(2:UInt8)) by decide)]
 simp
theorem Qsm (id:UInt64) (ix ct:Int) (da:List UInt8):prtE ⟨3,id,ix,ct,da⟩=if 450<da.length then 2 else if ct<1∨16<ct∨ix<0∨ct≤ix then 3 else if ct≠1 then 3 else 0:=by
 rw[prtE,if_neg (show ¬((3:UInt8)<1∨3<(3:UInt8)) by decide)]
 simp
theorem Ql2 {p:Prt} (h:p.kd<1∨3<p.kd):prtE p=1:=by rw[prtE,if_pos h]
theorem QpY {k:UInt8} (h:k<1∨3<k):(k != 1)=true∧(k != 2)=true∧(k != 3)=true:=by
 refine⟨?_,?_,?_⟩<;>(rw [bne_iff_ne];rintro rfl;exact absurd h (by decide))
set_option maxRecDepth 100000 in
set_option maxHeartbeats 4000000 in
theorem Qni (p:Prt) (A:Option Addr) (n c:Nat) (hn:p.da.length=n) (w:World):Calls Tryz.prog 89 #[.agg (PaC p (.slice A n c)).toArray] w fun e w'=>e= .returned (.int .i64 (prtE p:Nat))∧Later w w':=by
 obtain⟨kd,id,ix,ct,da⟩:=p
 simp only at hn
 have hb:Blk (w.alloc (.cells (PaC ⟨kd,id,ix,ct,da⟩ (.slice A n c)).toArray 25)) w.heap.size 25 (PaC ⟨kd,id,ix,ct,da⟩ (.slice A n c)):=Blk.new _ _ _
 obtain⟨c0,c1,c2,c3,c4⟩:=QaD hb
 have L:=Qaa w (.cells (PaC ⟨kd,id,ix,ct,da⟩ (.slice A n c)).toArray 25)
 clear hb
 obtain⟨E,hE⟩:∃E,prtE ⟨kd,id,ix,ct,da⟩=E:=⟨_,rfl⟩
 rw[hE]
 rcases Qmd kd with rfl|rfl|rfl|hbad
 case inr.inr.inr=>
  have HE:=hid (hE.symm.trans (Ql2 (p:=⟨kd,id,ix,ct,da⟩) hbad))
  clear hE
  rcases hbad with h|h
  ·go_enter Tryz.func89,Tryz.ntmps89
   go_wp2_with fail
   go_ret
   exact⟨by rw[HE.out];rfl,L⟩
  ·by_cases h1:kd<1
   all_goals
    go_enter Tryz.func89,Tryz.ntmps89
    go_wp2_with fail
    go_ret
    exact⟨by rw[HE.out];rfl,L⟩
 all_goals
  have HE:=hE.symm.trans (by first|exact Qsk id ix ct da|exact Qsf id ix ct da|exact Qsm id ix ct da)
  rw[hn]at HE
  replace HE:=hid HE
  clear hE
  by_cases h2:450<n
  ·have hd:decide ((450:Int)<(n:Int))=true:=decide_eq_true (by omega)
   replace HE:=hid (HE.out.trans (if_pos h2))
   go_enter Tryz.func89,Tryz.ntmps89
   go_wp2_with fail
   go_ret
   exact⟨by rw[HE.out];rfl,L⟩
  have hd:decide ((450:Int)<(n:Int))=false:=decide_eq_false (by omega)
  replace HE:=hid (HE.out.trans (if_neg h2))
  by_cases h3:ct<1∨16<ct∨ix<0∨ct≤ix
  ·replace HE:=hid (HE.out.trans (if_pos h3))
   by_cases k1:ct<1
   ·go_enter Tryz.func89,Tryz.ntmps89
    go_wp2_with fail
    go_ret
    exact⟨by rw[HE.out];rfl,L⟩
   by_cases k2:16<ct
   ·go_enter Tryz.func89,Tryz.ntmps89
    go_wp2_with fail
    go_ret
    exact⟨by rw[HE.out];rfl,L⟩
   by_cases k3:ix<0
   ·go_enter Tryz.func89,Tryz.ntmps89
    go_wp2_with fail
    go_ret
    exact⟨by rw[HE.out];rfl,L⟩
   have k4:ct≤ix:=by omega
   go_enter Tryz.func89,Tryz.ntmps89
   go_wp2_with fail
   go_ret
   exact⟨by rw[HE.out];rfl,L⟩
  replace HE:=hid (HE.out.trans (if_neg h3))
  have k1: ¬ct<1:=by omega
  have k2: ¬ 16<ct:=by omega
  have k3: ¬ix<0:=by omega
  have k4: ¬ct≤ix:=by omega
  clear h3
 ·go_enter Tryz.func89,Tryz.ntmps89
  go_wp2_with fail
  go_ret
  exact⟨by rw[HE.out];rfl,L⟩
 all_goals
  by_cases h4:ct=1
  case neg=>
   have hd4:(ct != 1)=true:=by simpa using h4
   replace HE:=hid (HE.out.trans (if_pos h4))
   go_enter Tryz.func89,Tryz.ntmps89
   go_wp2_with fail
   go_ret
   exact⟨by rw[HE.out];rfl,L⟩
  subst h4
  replace HE:=hid (HE.out.trans (if_neg (by simp)))
 ·cases e1:(id==0)
  ·have n1:(id != 0)=true:=by rw[bne,e1];rfl
   have hne:id≠0:=by simpa using e1
   replace HE:=hid (HE.out.trans (if_pos (.inl hne)))
   go_enter Tryz.func89,Tryz.ntmps89
   go_wp2_with fail
   go_ret
   exact⟨by rw[HE.out];rfl,L⟩
  ·have n1:(id != 0)=false:=by rw[bne,e1];rfl
   have heq:id=0:=by simpa using e1
   by_cases h5:n=0
   ·replace HE:=hid (HE.out.trans (if_neg (by simp[heq,h5])))
    have n2:((n:Int) != 0)=false:=by simp[h5]
    clear h5 heq
    go_enter Tryz.func89,Tryz.ntmps89
    go_wp2_with fail
    go_ret
    exact⟨by rw[HE.out];rfl,L⟩
   ·replace HE:=hid (HE.out.trans (if_pos (.inr h5)))
    have n2:((n:Int) != 0)=true:=by simp;omega
    clear h5 heq
    go_enter Tryz.func89,Tryz.ntmps89
    go_wp2_with fail
    go_ret
    exact⟨by rw[HE.out];rfl,L⟩
 ·go_enter Tryz.func89,Tryz.ntmps89
  go_wp2_with fail
  go_ret
  exact⟨by rw[HE.out];rfl,L⟩
set_option maxRecDepth 100000 in
set_option maxHeartbeats 4000000 in
theorem QmJ (p:Prt) (A:Option Addr) (n c:Nat) (hn:p.da.length=n) (w:World):Calls Tryz.prog 64 #[.agg (PaC p (.slice A n c)).toArray] w fun e w'=>e= .returned (.int .i64 (prtE p:Nat))∧Later w w':=by
 obtain⟨kd,id,ix,ct,da⟩:=p
 simp only at hn
 have hb:Blk (w.alloc (.cells (PaC ⟨kd,id,ix,ct,da⟩ (.slice A n c)).toArray 25)) w.heap.size 25 (PaC ⟨kd,id,ix,ct,da⟩ (.slice A n c)):=Blk.new _ _ _
 obtain⟨c0,c1,c2,c3,c4⟩:=QaD hb
 have L:=Qaa w (.cells (PaC ⟨kd,id,ix,ct,da⟩ (.slice A n c)).toArray 25)
 clear hb
 obtain⟨E,hE⟩:∃E,prtE ⟨kd,id,ix,ct,da⟩=E:=⟨_,rfl⟩
 rw[hE]
 rcases Qmd kd with rfl|rfl|rfl|hbad
 case inr.inr.inr=>
  have HE:=hid (hE.symm.trans (Ql2 (p:=⟨kd,id,ix,ct,da⟩) hbad))
  clear hE
  obtain⟨m1,m2,m3⟩:=QpY hbad
  clear hbad
  go_enter Tryz.func64,Tryz.ntmps64
  go_wp2_with fail
  go_ret
  exact⟨by rw[HE.out];rfl,L⟩
 all_goals
  have HE:=hE.symm.trans (by first|exact Qsk id ix ct da|exact Qsf id ix ct da|exact Qsm id ix ct da)
  rw[hn]at HE
  replace HE:=hid HE
  clear hE
  by_cases h2:450<n
  ·have hd:decide ((450:Int)<(n:Int))=true:=decide_eq_true (by omega)
   replace HE:=hid (HE.out.trans (if_pos h2))
   go_enter Tryz.func64,Tryz.ntmps64
   go_wp2_with fail
   go_ret
   exact⟨by rw[HE.out];rfl,L⟩
  have hd:decide ((450:Int)<(n:Int))=false:=decide_eq_false (by omega)
  replace HE:=hid (HE.out.trans (if_neg h2))
  by_cases h3:ct<1∨16<ct∨ix<0∨ct≤ix
  ·replace HE:=hid (HE.out.trans (if_pos h3))
   by_cases k1:ct<1
   ·go_enter Tryz.func64,Tryz.ntmps64
    go_wp2_with fail
    go_ret
    exact⟨by rw[HE.out];rfl,L⟩
   by_cases k2:16<ct
   ·go_enter Tryz.func64,Tryz.ntmps64
    go_wp2_with fail
    go_ret
    exact⟨by rw[HE.out];rfl,L⟩
   by_cases k3:ix<0
   ·go_enter Tryz.func64,Tryz.ntmps64
    go_wp2_with fail
    go_ret
    exact⟨by rw[HE.out];rfl,L⟩
   have k4:ct≤ix:=by omega
   go_enter Tryz.func64,Tryz.ntmps64
   go_wp2_with fail
   go_ret
   exact⟨by rw[HE.out];rfl,L⟩
  replace HE:=hid (HE.out.trans (if_neg h3))
  have k1: ¬ct<1:=by omega
  have k2: ¬ 16<ct:=by omega
  have k3: ¬ix<0:=by omega
  have k4: ¬ct≤ix:=by omega
  clear h3
 ·go_enter Tryz.func64,Tryz.ntmps64
  go_wp2_with fail
  go_ret
  exact⟨by rw[HE.out];rfl,L⟩
 all_goals
  by_cases h4:ct=1
  case neg=>
   have hd4:1<ct:=by omega
   replace HE:=hid (HE.out.trans (if_pos h4))
   go_enter Tryz.func64,Tryz.ntmps64
   go_wp2_with fail
   go_ret
   exact⟨by rw[HE.out];rfl,L⟩
  subst h4
  replace HE:=hid (HE.out.trans (if_neg (by simp)))
 ·cases e1:(id==0)
  ·have n1:(id != 0)=true:=by rw[bne,e1];rfl
   have hne:id≠0:=by simpa using e1
   replace HE:=hid (HE.out.trans (if_pos (.inl hne)))
   go_enter Tryz.func64,Tryz.ntmps64
   go_wp2_with fail
   go_ret
   exact⟨by rw[HE.out];rfl,L⟩
  ·have n1:(id != 0)=false:=by rw[bne,e1];rfl
   have heq:id=0:=by simpa using e1
   by_cases h5:n=0
   ·replace HE:=hid (HE.out.trans (if_neg (by simp[heq,h5])))
    have n2:decide (0<(n:Int))=false:=decide_eq_false (by omega)
    have n3: ¬ 0<n:=by omega
    clear h5 heq
    go_enter Tryz.func64,Tryz.ntmps64
    go_wp2_with fail
    go_ret
    exact⟨by rw[HE.out];rfl,L⟩
   ·replace HE:=hid (HE.out.trans (if_pos (.inr h5)))
    have n2:decide (0<(n:Int))=true:=decide_eq_true (by omega)
    have n3:0<n:=by omega
    clear h5 heq
    go_enter Tryz.func64,Tryz.ntmps64
    go_wp2_with fail
    go_ret
    exact⟨by rw[HE.out];rfl,L⟩
 ·go_enter Tryz.func64,Tryz.ntmps64
  go_wp2_with fail
  go_ret
  exact⟨by rw[HE.out];rfl,L⟩
end Go.Proofs.YtdhgpkdjdmlphaaGreat
