/-
  Lemmas for the last text of this claim (part 7 of 20).
-/
import Derived.ArgAppend
import Derived.BigQuiet
import Derived.BigRegion
import Derived.ChangeOld
import Derived.Deep.RegionWith
import Derived.DeepKeys4
import Derived.JoinedCond
import Derived.LaidMore
import Derived.Laws.Append
import Derived.Laws.BytesArg
import Derived.Laws.CopyOwn
import Derived.Laws.Externs
import Derived.Laws.IdiomStrings
import Derived.Laws.Tables
import Derived.Lib.AppendStr
import Derived.Lib.AppendZerosOnto
import Derived.Lib.Mul64
import Derived.Lib.SlBytesConst
import Derived.LoopN
import Derived.Maps.OwnSet
import Derived.OpenShut
import Derived.OrdersHeld
import Derived.ProofKit
import Derived.Shelf.Spec.BitsCarry
import Derived.ShutString
import Derived.Test.YticcbmhcgmhohaaGreatProg
import Derived.Test.YticcbmhcgmhohaaGreatRows
import Derived.WalkKit
import Derived.WalkLawsBesides
import Derived.WalkSpells
import Derived.Test.YticcbmhcgmhohaaGreatPB
import Derived.Test.YticcbmhcgmhohaaGreatPC
import Derived.Test.YticcbmhcgmhohaaGreatPF
open BitVec renaming toNat_ushiftRight → QDz, toNat_shiftLeft → QEC
open Bool renaming eq_iff_iff → QDw
open Int renaming toNat_natCast → QEv
open List renaming replicate → QCC, getElem?_cons_succ → QCD, getElem?_cons_zero → QCE, length_map → QCF, nil_append → QCH, cons_append → QCI, getElem?_eq_getElem → QCJ, getD_eq_getElem?_getD → QCK, setIfInBounds_toArray → QCL, set_cons_zero → QCN, set_cons_succ → QCO, take_of_length_le → QCQ, getElem?_append_left → QCW, getElem?_map → QCY, length_take → QC5, map_append → QDq, mem_map → QDs, range → QDu, getElem?_replicate → QEj, getElem?_take → QEm, mem_range → QEo, range_succ → QER, map_congr_left → QES, ext_getElem → QEU, map_set → QE3
open Nat renaming le_refl → QCP, lt_of_lt_of_le → QCX, mod_eq_of_lt → QC1, zero_add → QC4, mod_lt → QC8, div_div_eq_div_mul → QDt, shiftRight_eq_div_pow → QDv, div_eq_of_lt → QDy, div_add_mod → QDA, mul_comm → QDD, pow_succ → QDF, lt_trans → QDG, pow_le_pow_right → QDH, div_lt_of_lt_mul → QDI, lt_or_ge → QDJ, le_mul_of_pos_right → QDO, mul_add → QDT, mul_mod → QDX, pow_add → QD2, mod_mod → QD4, lt_of_le_of_lt → QD6, add_zero → QD8, add_mul_div_left → QEa, mul_le_mul_left → QEg, mul_one → QEq, add_comm → QEB, pow_pos → QEF, shiftLeft_eq → QEM, zero_mod → QEO, mul_left_comm → QEP, pow_zero → QEW, add_mod → QEY
open Option renaming toList_some → QCG
open UInt32 renaming ofNat → QDg, toNat_ofNat' → QEE, toNat_inj → QE2
open UInt64 renaming ofNat → QC7, toNat_ofNat' → QDb, toNat_inj → QEz, toNat_toUInt8 → QEN
open UInt8 renaming ofNat → QDe, toNat_inj → QDr, toNat_ofNat' → QDB
set_option linter.all false
namespace Go.Proofs.YticcbmhcgmhohaaGreat
open Go.RowKit
def B64:Nat:=18446744073709551616
def B32:Nat:=4294967296
theorem QaP:0<B64:=by decide
theorem Qa7:0<B32:=by decide
def n64 (n:Nat):Value:=W64 (QC7 n)
def n32 (n:Nat):Value:=W32 (QDg n)
def n8 (n:Nat):Value:=W8 (QDe n)
@[go_sem] theorem QBn (n:Nat):(n%B64<B64)=True:=eq_true (QC8 _ QaP)
@[go_sem] theorem QBy (n:Nat):(n%B32<B32)=True:=eq_true (QC8 _ Qa7)
theorem Qhk {n:Nat} {x:UInt64} (h:x.toNat=n%B64):W64 x=n64 n:=by
 unfold B64 at h
 rw[n64]
 congr 1
 apply QEz.1
 rw[QDb,h]
theorem Qsu {n:Nat} {x:UInt32} (h:x.toNat=n%B32):W32 x=n32 n:=by
 unfold B32 at h
 rw[n32]
 congr 1
 apply QE2.1
 rw[QEE,h]
theorem n8_w {n:Nat} {x:UInt8} (h:x.toNat=n%256):W8 x=n8 n:=by
 rw[n8]
 congr 1
 apply QDr.1
 rw[QDB,h]
theorem QvD {n m:Nat} (h:n%B64=m%B64):n64 n=n64 m:=by
 rw[n64]
 apply Qhk
 rw[QDb,←h]
 rfl
theorem Qwf {n m:Nat} (h:n%B32=m%B32):n32 n=n32 m:=by
 rw[n32]
 apply Qsu
 rw[QEE,←h]
 rfl
theorem QBP (x:UInt64):W64 x=n64 x.toNat:=by rw[n64,UInt64.ofNat_toNat]
theorem tn64 {n:Nat} (h:n<B64):(QC7 n).toNat=n:=by
 unfold B64 at h
 rw[QDb]
 exact QC1 h
theorem tn32 {n:Nat} (h:n<B32):(QDg n).toNat=n:=by
 unfold B32 at h
 rw[QEE]
 exact QC1 h
theorem QeJ {n:Nat} (h:n<B64):n64 n= .int .u64 (n:Int):=by rw[n64,W64,tn64 h]
theorem QvR {n:Nat} (h:n<B32):n32 n= .int .u32 (n:Int):=by rw[n32,W32,tn32 h]
theorem QgH (k:Int) (h0:0≤k) (h1:k<18446744073709551616):Value.int .u64 k=n64 k.toNat:=by
 rw[QeJ (by unfold B64;omega)]
 congr 1
 omega
theorem Qxb (k:Int) (h0:0≤k) (h1:k<4294967296):Value.int .u32 k=n32 k.toNat:=by
 rw[QvR (by unfold B32;omega)]
 congr 1
 omega
@[go_sem ↓] theorem QzW (x:Nat):(n64 x).cells= #[n64 x]:=rfl
@[go_sem ↓] theorem Qz9 (x:Nat):(n32 x).cells= #[n32 x]:=rfl
@[go_sem ↓] theorem QA8 (x:Nat):(n8 x).cells= #[n8 x]:=rfl
theorem Qrp (l:List Nat):∀v∈l.map n64,v.oneCell'=true:=by
 intro v hv
 obtain⟨x,_,rfl⟩:=QDs.1 hv
 rfl
theorem Qxd (l:List Nat):∀v∈l.map n32,v.oneCell'=true:=by
 intro v hv
 obtain⟨x,_,rfl⟩:=QDs.1 hv
 rfl
@[go_sem] theorem QAZ:(0<B64)=True:=eq_true QaP
@[go_sem] theorem QBF:(1<B64)=True:=eq_true (by decide)
@[go_sem] theorem QAf:(0<B32)=True:=eq_true Qa7
@[go_sem] theorem QBp:(1<B32)=True:=eq_true (by decide)
section
variable (T:TypeId) (ox oy:Operand)
@[go_sem] theorem Qx7 (op:BinOp) (x y:Nat):eqGuard op T ox oy (n64 x) (n64 y)=pure ():=Qa2 ..
@[go_sem] theorem Qv0 (op:BinOp) (x:Nat) (k:IntKind) (y:Int):eqGuard op T ox oy (n64 x) (.int k y)=pure ():=Qa2 ..
@[go_sem] theorem Qvz (op:BinOp) (x:Nat) (k:IntKind) (y:Int):eqGuard op T ox oy (.int k y) (n64 x)=pure ():=Qa2 ..
@[go_sem] theorem Qxw (op:BinOp) (x y:Nat):eqGuard op T ox oy (n32 x) (n32 y)=pure ():=Qa2 ..
@[go_sem] theorem Qv5 (op:BinOp) (x:Nat) (k:IntKind) (y:Int):eqGuard op T ox oy (n32 x) (.int k y)=pure ():=Qa2 ..
@[go_sem] theorem Qv2 (op:BinOp) (x:Nat) (k:IntKind) (y:Int):eqGuard op T ox oy (.int k y) (n32 x)=pure ():=Qa2 ..
@[go_sem] theorem Qr4 (x y:Nat):binOp .add T (n64 x) (n64 y)=pure (n64 (x+y)):=by
  rw[n64,n64,Qns,Qhk]
  rw[UInt64.toNat_add,QDb,QDb]
  unfold B64
  omega
@[go_sem] theorem QA4 (x:Nat) (k:Int) (h0:0≤k) (h1:k<18446744073709551616):binOp .add T (n64 x) (.int .u64 k)=pure (n64 (x+k.toNat)):=by rw[QgH k h0 h1,Qr4]
@[go_sem] theorem QAW (x:Nat) (k:Int) (h0:0≤k) (h1:k<18446744073709551616):binOp .add T (.int .u64 k) (n64 x)=pure (n64 (k.toNat+x)):=by rw[QgH k h0 h1,Qr4]
@[go_sem] theorem QrM (x y:Nat) (hx:x<B64) (hy:y≤x):binOp .sub T (n64 x) (n64 y)=pure (n64 (x-y)):=by
  rw[n64,n64,QnK,Qhk]
  unfold B64 at hx
  rw[UInt64.toNat_sub,QDb,QDb]
  unfold B64
  omega
@[go_sem] theorem Qms (x y:Nat):binOp .mul T (n64 x) (n64 y)=pure (n64 (x*y)):=by
  rw[n64,n64,QmU,Qhk]
  rw[UInt64.toNat_mul,QDb,QDb]
  exact (QDX x y B64).symm
@[go_sem] theorem QA1 (x:Nat) (k:Int) (h0:0≤k) (h1:k<18446744073709551616):binOp .mul T (n64 x) (.int .u64 k)=pure (n64 (x*k.toNat)):=by rw[QgH k h0 h1,Qms]
@[go_sem] theorem QAp (x:Nat) (k:Int) (h0:0≤k) (h1:k<18446744073709551616):binOp .mul T (.int .u64 k) (n64 x)=pure (n64 (k.toNat*x)):=by rw[QgH k h0 h1,Qms]
theorem Qf4 (x:Nat) (k:Nat):x &&& (2^k-1)=x%2^k:=Nat.and_two_pow_sub_one_eq_mod x k
@[go_sem] theorem Qzy (x:Nat):binOp .and T (n64 x) (.int .u64 9223372036854775807)=pure (n64 (x%9223372036854775808)):=by
  rw[n64,QkL _ _ _ (by omega) (by omega),Qhk]
  rw[UInt64.toNat_and,QDb,QDb]
  have:=Qf4 (x%2^64) 63
  unfold B64
  simp only[Int.reduceToNat,Nat.reducePow,Nat.reduceSub,Nat.reduceMod]at this ⊢
  rw[this]
  omega
@[go_sem] theorem QyS (x:Nat):binOp .and T (n64 x) (.int .u64 4294967295)=pure (n64 (x%4294967296)):=by
  rw[n64,QkL _ _ _ (by omega) (by omega),Qhk]
  rw[UInt64.toNat_and,QDb,QDb]
  have:=Qf4 (x%2^64) 32
  unfold B64
  simp only[Int.reduceToNat,Nat.reducePow,Nat.reduceSub,Nat.reduceMod]at this ⊢
  rw[this]
  omega
@[go_sem] theorem Qza (x:Nat):binOp .and T (n64 x) (.int .u64 1)=pure (n64 (x%2)):=by
  rw[n64,QkL _ _ _ (by omega) (by omega),Qhk]
  rw[UInt64.toNat_and,QDb,QDb]
  have:=Qf4 (x%2^64) 1
  unfold B64
  simp only[Int.reduceToNat,Nat.reducePow,Nat.reduceSub,Nat.reduceMod]at this ⊢
  rw[this]
  omega
@[go_sem] theorem Qyu (x:Nat) (hx:x<B64) (yk:IntKind) (k:Int) (h0:0≤k):binOp .shr T (n64 x) (.int yk k)=pure (n64 (x/2^k.toNat)):=by
  rw[n64,QkB _ _ _ _ h0,Qhk]
  rw[QeY]
  show (BitVec.toNat _)=_
  rw[QDz]
  show (QC7 x).toNat >>> _=_
  rw[tn64 hx,QDv]
  have:x/2^k.toNat<B64:=QD6 (Nat.div_le_self _ _) hx
  rw[QC1 this]
@[go_sem] theorem QwO (x:Nat) (hx:x<B64) (k:Int) (h0:0<k) (h1:k<18446744073709551616):binOp .rem T (n64 x) (.int .u64 k)=pure (n64 (x%k.toNat)):=by
  rw[n64,Qt6 _ _ _ (by omega) h1 (by rw[QDb];omega),Qhk]
  rw[UInt64.toNat_mod,tn64 hx,QDb,QC1 (show k.toNat<2^64 by omega),QC1 (QD6 (Nat.mod_le _ _) hx)]
@[go_sem] theorem QyF (x:Nat):binOp .rem T (n64 x) (.int .u64 4294967296)=pure (n64 (x%B32)):=by
  rw[QvD (show x%B64=(x%B64)%B64 by rw[QD4]),QwO _ _ (QC8 _ QaP) _ (by omega) (by omega)]
  congr 2
  unfold B64 B32
  simp only[Int.reduceToNat]
  omega
theorem Qxu (x y:Nat) (hx:x<B64) (hy:y<B64):binOp .eql T (n64 x) (n64 y)=pure (.bool (x==y)):=by
 rw[n64,n64,Qnn]
 congr 2
 rw[QDw]
 simp only[beq_iff_eq,←QEz,tn64 hx,tn64 hy]
@[go_sem] theorem QAu (x:Nat) (k:Int) (hx:x<B64) (h0:0≤k) (h1:k<18446744073709551616):binOp .eql T (n64 x) (.int .u64 k)=pure (.bool (x==k.toNat)):=by
  rw[QgH k h0 h1,Qxu _ _ _ hx (by unfold B64;omega)]
@[go_sem] theorem QA6 (x:Nat) (k:Int) (hx:x<B64) (h0:0≤k) (h1:k<18446744073709551616):binOp .gtr T (n64 x) (.int .u64 k)=pure (.bool (decide (k.toNat<x))):=by
  rw[QgH k h0 h1,n64,n64,QnQ]
  congr 2
  rw[QDw]
  simp only[decide_eq_true_eq,UInt64.lt_iff_toNat_lt,tn64 hx]
  rw[tn64 (show k.toNat<B64 by unfold B64;omega)]
@[go_sem] theorem QCu (x y:Nat) (hx:x<B64) (hy:y<B64):binOp .lss T (n64 x) (n64 y)=pure (.bool (decide (x<y))):=by
  rw[n64,n64,QmK]
  congr 2
  rw[QDw]
  simp only[decide_eq_true_eq,UInt64.lt_iff_toNat_lt,tn64 hx,tn64 hy]
end
section
variable {P:Program} (w:World) (S D:TypeId)
@[go_sem] theorem Qnf (x:Nat) (hx:x<B32) (hs:(P.underlying S).isSome=true) (hd:P.underlying D=some (.int .u64)):(convert S D (n32 x)).run P w= .ok (n64 x) w:=by
  rw[n32,QfP _ _ _ _ hs hd,Qhk]
  rw[UInt32.toNat_toUInt64,tn32 hx,QC1 (show x<B64 by unfold B32 at hx;unfold B64;omega)]
@[go_sem] theorem Qnc (x:Nat) (hs:(P.underlying S).isSome=true) (hd:P.underlying D=some (.int .u32)):(convert S D (n64 x)).run P w= .ok (n32 x) w:=by
  rw[n64,Qf1 _ _ _ _ hs hd,Qsu]
  rw[UInt64.toNat_toUInt32,QDb]
  unfold B32
  omega
@[go_sem] theorem QoD (x:Nat) (hs:(P.underlying S).isSome=true) (hd:P.underlying D=some (.int .u8)):(convert S D (n64 x)).run P w= .ok (n8 x) w:=by
  rw[n64,Qf6 _ _ _ _ hs hd,n8_w]
  rw[QEN,QDb]
  omega
@[go_sem] theorem Qui (P:Program) (w:World) (a:Addr) (m:Mode) (x:Nat):(store a (n64 x) m).run P w=stored P w a (n64 x) m:=run_store P w a _ m rfl
@[go_sem] theorem Qvx (P:Program) (w:World) (a:Addr) (m:Mode) (x:Nat):(store a (n32 x) m).run P w=stored P w a (n32 x) m:=run_store P w a _ m rfl
@[go_sem] theorem QvN (P:Program) (w:World) (a:Addr) (m:Mode) (x:Nat):(store a (n8 x) m).run P w=stored P w a (n8 x) m:=run_store P w a _ m rfl
end
def EL (n:Nat):List Value:=(dig B64 4 n).map n64
abbrev E (n:Nat):Value:=.agg (EL n).toArray
theorem Qal (n:Nat):(EL n).length=4:=by rw[EL,QCF,QaI]
def lim (n i:Nat):Nat:=n/B64^i%B64
@[go_sem] theorem QCx (n i:Nat):(lim n i<B64)=True:=eq_true (QC8 _ QaP)
theorem QcN (n i:Nat) (h:i<4):(EL n)[i]?=some (n64 (lim n i)):=by rw[EL,QCY,QfS _ _ _ _ h];rfl
@[go_sem] theorem Qrl (n i:Nat) (h:i<(EL n).length):(EL n)[i]=n64 (lim n i):=by
  have:=QcN n i (by rw[Qal]at h;exact h)
  rw[QCJ h]at this
  exact Option.some.inj this
theorem QgP (x y c:Nat) (hx:x<B64) (hy:y<B64) (hc:c≤1) (w:World):
 (callFunc 348 #[n64 x,n64 y,n64 c]).run Tryz.prog w= .ok (.value (.tuple #[n64 ((x+y+c)%B64),n64 ((x+y+c)/B64)])) w:=by
 rw[QeJ hx,QeJ hy,QeJ (show c<B64 by unfold B64;omega),run_callFunc_extern Tryz.func348 (by kernel_rfl) (by kernel_rfl) (by kernel_rfl) (e:=add64Entry) (by kernel_rfl),run_add64 _ _ _ (by omega) (by omega) (by omega) (by omega)]
 simp only[Result.andThen]
 rw[QeJ (QC8 _ QaP),QeJ (show (x+y+c)/B64<B64 by unfold B64 at *;omega)]
 congr 5<;>(unfold B64;omega)
@[go_sem high] theorem run_add64 (x y c:Nat) (hx:x<B64) (hy:y<B64) (hc:c≤1) (w:World):
   (callFunc 348 #[n64 x,n64 y,n64 c]).run Tryz.prog w= .ok (.value (.tuple #[n64 ((x+y+c)%B64),n64 ((x+y+c)/B64)])) w:=QgP x y c hx hy hc w
@[go_sem high] theorem QwU (x y:Nat) (hx:x<B64) (hy:y<B64) (w:World):
   (callFunc 348 #[n64 x,n64 y,.int .u64 0]).run Tryz.prog w= .ok (.value (.tuple #[n64 ((x+y)%B64),n64 ((x+y)/B64)])) w:=QgP x y 0 hx hy (by omega) w
@[go_sem high] theorem Qyh (x c:Nat) (hx:x<B64) (hc:c≤1) (w:World):
   (callFunc 348 #[n64 x,.int .u64 0,n64 c]).run Tryz.prog w= .ok (.value (.tuple #[n64 ((x+c)%B64),n64 ((x+c)/B64)])) w:=QgP x 0 c hx QaP hc w
theorem Qon (n:Nat):∀v∈EL n,v.oneCell'=true:=Qrp _
theorem Qmc {B n:Nat} (h:n<B) (k:Nat) (hk:0<k):n/B^k%B=0:=by
 rw[QDy (QCX h (Nat.le_pow (by omega))),QEO]
set_option maxHeartbeats 1000000 in
theorem Qgy (a n:Nat) (hn:n<B64) (w:World):
 Calls Tryz.prog 316 #[E a,n64 n] w fun e w'=>e= .returned (.tuple #[E (a+n),n64 ((a%B64^4+n)/B64^4)])∧Later w w':=by
 have hlS:=Qal (a+n)
 have hlA:=Qal a
 have hb:Blk ((w.alloc (.cells (EL a).toArray 360)).alloc (.cells (QCC 4 (.int .u64 0)).toArray 360)) w.heap.size 360 (EL a):=(Blk.new _ _ _).later (Qaa _ _)
 have hr:Blk ((w.alloc (.cells (EL a).toArray 360)).alloc (.cells (QCC 4 (.int .u64 0)).toArray 360)) (w.heap.size+1) 360 (QCC 4 (.int .u64 0)):=Blk.new' _ _ _ (by simp)
 go_enter Tryz.func316,Tryz.ntmps316
 go_wp2_with (first
  | (refine Qad rfl rfl _ _ _ rfl _ _ _ _ hb rfl ?hl rfl (by kernel_rfl) ?_;(case hl=>omega);intro v w1 hv hb1 ho1;simp[go_sem]at hv;subst hv))
 have e0:(lim a 0+n)%B64=lim (a+n) 0:=by
  simp[lim]
 have e1:(lim a 0+n)/B64=carr B64 a n 0 1:=by
  simp[carr,lim,QC1 hn]
 rw[e0,←Qbh (EL (a+n)) (EL a),QaN _ _ _ _ (by omega) (by omega) (QcN (a+n) 0 (by omega))]at hb1
 have HE:=hid e1
 clear e0 e1
 have L1:Later w w1:=((Qaa _ _).trans (Qaa _ _)).only ho1 (QCP _)
 have hr1:=hr.only ho1 (by omega)
 go_loopw [6,7] (fun c i wr=>∃k:Nat,1≤k∧k≤4∧i= .int .i64 k∧c=n64 (carr B64 a n 0 k)∧Blk wr w.heap.size 360 (Qbu (EL (a+n)) (EL a) k)∧Blk wr (w.heap.size+1) 360 (QCC 4 (.int .u64 0))∧Later w wr) (fun _ i _=>4-(intOf i).toNat)
 case atStart=>exact⟨1,by omega,by omega,rfl,by rw[HE.out],hb1,hr1,L1⟩
 case round=>
  clear hb hr hb1 hr1 L1 ho1 HE
  obtain⟨k,hk1,hk4,rfl,rfl,hb,hr,L⟩:=hrel
  by_cases hlt:k<4
  ·have hc:=QnO QaP a n 0 k (by omega)
   have S0:=hid (Qnt QaP a n 0 k)
   have S1:=hid (QiF QaP a n 0 k)
   have d0:=hb.cellD k (u:=n64 (lim a k)) (by rw[Qec _ _ _ _ (by omega) (QCP _) (by omega)];exact QcN a k hlt)
   generalize carr B64 a n 0 k=c at *
   go_wp2_with (first
    | (refine Qad rfl rfl _ _ _ rfl _ _ _ _ hb rfl ?hl rfl (by kernel_rfl) ?_;(case hl=>rw[Qaw _ _ _ (by omega)];omega);intro v w2 hv hb2 ho2;simp[go_sem]at hv;subst hv))
   go_roundw
   case rel=>
    have z:n/B64^k%B64=0:=Qmc hn k hk1
    have e0:=S0.out
    have e1:=S1.out
    rw[z]at e0 e1
    rw[QaN _ _ _ _ (by omega) (by omega) (by rw[QcN (a+n) k hlt,lim,lim,←QD8 (a+n),←e0,QD8])]at hb2
    exact⟨k+1,by omega,by omega,by go_num,by rw[←e1];rfl,hb2,hr.only ho2 (by omega),L.only ho2 (QCP _)⟩
   case measure=>simp[intOf];omega
  ·obtain rfl:k=4:=by omega
   have hcE:carr B64 a n 0 4=(a%B64^4+n)/B64^4:=by
    rw[carr,QC1 (show n<B64^4 from QCX hn (Nat.le_pow (by omega)))]
    rfl
   rw[QbP _ _ _ hlS hlA]at hb
   have HC:=hid hcE
   clear hcE
   go_wp2_with (first
    | (refine QaD rfl 360 _ rfl w.heap.size 0 (EL (a+n)) ?hc ?hx _ Tryz.underlying360 rfl ?hi ?_;(case hx=>rfl);(case hi=>rw[hlS];kernel_rfl);(case hc=>intro j v hv;rw[QC4];exact hb.cellD j hv))
    | (refine Qaf rfl rfl 360 _ _ rfl (w.heap.size+1) 0 360 _ (EL (a+n)) hr ?hx ?hy ?hi ?hf ?h1 ?_;(case hx=>rfl);(case hy=>rfl);(case hi=>rw[hlS];kernel_rfl);(case hf=>simp[hlS]);(case h1=>exact Qon _);intro w9 hb9 ho9))
   rw[Qak _ _ (by simp[hlS])]at hb9
   exact bodyPost_ret (Qai rfl _ _ _ _ (EL (a+n)) _ hb9 rfl Tryz.underlying360 rfl (by rw[hlS];kernel_rfl)) rfl ⟨by rw[←HC.out];rfl,L.only ho9 (by omega)⟩
def P25:Nat:=57896044618658097711785492504343953926634992332820282019728792003956564819949
def T255:Nat:=57896044618658097711785492504343953926634992332820282019728792003956564819968
def T256:Nat:=115792089237316195423570985008687907853269984665640564039457584007913129639936
theorem Qdx:B64^4=T256:=by decide
theorem Qbd:0<P25:=by decide
theorem Qtl (n:Nat) (hn:n<T256):∃u,u=n%T255+19*(n/T255)∧(u+19<T255→u=n%P25)∧(T255≤u+19→u+19<T256∧u+19-T255=n%P25):=by
 refine⟨_,rfl,?_,?_⟩<;>unfold T255 P25 at* <;>unfold T256 at* <;>omega
theorem lim3 (n:Nat) (hn:n<T256):lim n 3/9223372036854775808=n/T255:=by
 unfold lim B64 T255
 unfold T256 at hn
 omega
theorem Qn7 (n:Nat):(EL n).set 3 (n64 (lim n 3%9223372036854775808))=EL (n%T255):=by
 have h0:lim n 0=lim (n%T255) 0:=by unfold lim T255 B64;omega
 have h1:lim n 1=lim (n%T255) 1:=by unfold lim T255 B64;omega
 have h2:lim n 2=lim (n%T255) 2:=by unfold lim T255 B64;omega
 have h3:lim n 3%9223372036854775808=lim (n%T255) 3:=by unfold lim T255 B64;omega
 have e:∀m,EL m=[n64 (lim m 0),n64 (lim m 1),n64 (lim m 2),n64 (lim m 3)]:=by
  intro m
  apply QEU (Qal m)
  intro i hi1 hi2
  rw[Qrl]
  have:i=0∨i=1∨i=2∨i=3:=by rw[Qal]at hi1;omega
  rcases this with rfl|rfl|rfl|rfl<;>rfl
 rw[e,e,h0,h1,h2,h3]
 rfl
theorem QgL:(Tryz.prog.info? 360).map (·.size)=some 4:=by kernel_rfl
section
variable {ops:Array Oper} {rest:List Oper} {o:Oper} {a:Act} {w:World} {Q:Exit→Act→World→Prop}
theorem Qbv (hgd:Region.wanted o (yielded ops a.tmps)=true) (x:Operand) (ho:o.op= .load 360 x) {g:Nat} {t:TypeId} {n:Nat} (hb:Blk w g t (EL n)) (hx:a.eval x= .pointer (some ⟨g,0,none⟩))
 (h:wpList Tryz.prog ops Q rest (a.put o.dst (E n)) w):wpList Tryz.prog ops Q (o :: rest) a w:=
 Qbn hgd _ x ho g t _ hb hx _ Tryz.underlying360 rfl 4 QgL (Qal n) h
theorem QaA (hgd:o.guard=none) (hd:o.dst=none) (x y:Operand) (ho:o.op= .store 360 x y) {g:Nat} {t:TypeId} {l:List Value} {n:Nat} (hg:Blk w g t l) (hx:a.eval x= .pointer (some ⟨g,0,none⟩)) (hy:a.eval y=E n) (hl:l.length=4)
 (h:∀w',Blk w' g t (EL n)→Only g w w'→wpList Tryz.prog ops Q rest a w'):wpList Tryz.prog ops Q (o :: rest) a w:=
 QaC hgd hd _ x y ho g t l _ hg hx hy 4 QgL (Qal n) hl (Qon n) h
theorem QgK {fn:Func} {p:Tmp} (hf:fn.results= #[.cell p 360]) {tmps:Array Value} {g:Nat} {t:TypeId} {n:Nat} (hg:Blk w g t (EL n)) (hp:tmps.getD p undef= .pointer (some ⟨g,0,none⟩)):
 (results fn tmps).run Tryz.prog w= .ok (E n) w:=QaR hf tmps w g t _ _ hg hp Tryz.underlying360 rfl (by rw[Qal];exact QgL)
theorem QcC {K:Act→Prop} (x:Operand) (ho:o.op= .load 360 x) {w0:World} {g:Nat} {t:TypeId} {n:Nat} (hb:Blk w0 g t (EL n)) (hx:a.eval x= .pointer (some ⟨g,0,none⟩)) (h:K (a.put o.dst (E n))):
 o.quiet Tryz.prog a (fun w'=>∃x,w'=grow w0 x) K:=
 Qav _ x ho g 0 (EL n) (fun w' hw j v hv=>by obtain⟨y,rfl⟩:=hw;rw[QC4];exact (hb.later ⟨y,rfl⟩).cellD j hv) hx _ Tryz.underlying360 rfl (by rw[Qal];exact QgL) h
end
theorem Qrw (a:Nat) (w:World):Calls Tryz.prog 316 #[E a,.int .u64 19] w fun e w'=>e= .returned (.tuple #[E (a+19),n64 ((a%B64^4+19)/B64^4)])∧Later w w':=Qgy a 19 (by decide) w
set_option maxHeartbeats 1000000 in
theorem QdU (n:Nat) (hn:n<T256) (w:World):
 Calls Tryz.prog 255 #[E n] w fun e w'=>e= .returned (E (n%P25))∧Later w w':=by
 obtain⟨u,hu,hu1,hu2⟩:=Qtl n hn
 have hl3:=lim3 n hn
 have hq:n/T255≤1:=by unfold T255;unfold T256 at hn;omega
 have hus:u<T256:=by unfold T255 at hu;unfold T256 at *;omega
 have hus':u+19<T256:=by unfold T255 at hu;unfold T256 at *;omega
 have hlu:=lim3 (u+19) hus'
 have HQ:=hid hl3
 have HU:=hid hu
 have HL:=hid hlu
 clear hl3 hu hlu
 have hlS:=Qal n
 have hb:Blk ((w.alloc (.cells (EL n).toArray 360)).alloc (.cells (QCC 4 (.int .u64 0)).toArray 360)) w.heap.size 360 (EL n):=(Blk.new _ _ _).later (Qaa _ _)
 have hr:Blk ((w.alloc (.cells (EL n).toArray 360)).alloc (.cells (QCC 4 (.int .u64 0)).toArray 360)) (w.heap.size+1) 360 (QCC 4 (.int .u64 0)):=Blk.new' _ _ _ (by simp)
 have hcs:u+19<T255∧(u+19)/T255=0∨T255≤u+19∧(u+19)/T255=1:=by unfold T255;unfold T256 at hus';omega
 rcases hcs with ⟨hlt,hz⟩|⟨hge,hz⟩
 ·have hz':lim (u+19) 3/9223372036854775808=0:=HL.out.trans hz
  have hR:=hid (hu1 hlt)
  clear hz hu1 hu2
  go_enter Tryz.func255,Tryz.ntmps255
  go_wp2_with (first
   | (refine Qad rfl rfl _ _ _ rfl _ _ _ _ hb rfl ?hl rfl (by kernel_rfl) ?_;(case hl=>omega);intro v w1 hv hb1 ho1;simp[go_sem]at hv;subst hv
      rw[Qn7]at hb1
      have hr1:=hr.only ho1 (by omega)
      have L1:Later w w1:=((Qaa _ _).trans (Qaa _ _)).only ho1 (QCP _)
      clear hb hr ho1)
   | (refine Qbv rfl _ rfl hb1 rfl ?_)
   | (go_at_call 316;(with_reducible refine (Qgy (n%T255) _ ?hb19 _).mono ?_);(case hb19=>rw[HQ.out];unfold B64;omega);rintro e w2 ⟨rfl,hl2⟩;rw[HQ.out,←HU.out]
      replace hb1:=hb1.later hl2
      have hr2:=hr1.later hl2
      have L2:=L1.trans hl2
      clear hr1 L1 hl2)
   | (refine QaA rfl rfl _ _ rfl hb1 rfl rfl (Qal _) ?_;intro w3 hb3 ho3
      have hr3:=hr2.only ho3 (by omega)
      have L3:=L2.only ho3 (QCP _)
      clear hr2 L2 ho3 hb1)
   | (refine Qbv rfl _ rfl hb3 rfl ?_)
   | (go_at_call 316;(with_reducible refine (Qrw u _).mono ?_);rintro e w4 ⟨rfl,hl4⟩
      have hb4:=(hb3.later hl4).later (Qaa _ (.cells (QCC 4 (.int .u64 0)).toArray 360))
      have hr4:=(hr3.later hl4).later (Qaa _ (.cells (QCC 4 (.int .u64 0)).toArray 360))
      have L4:=(L3.trans hl4).alloc (.cells (QCC 4 (.int .u64 0)).toArray 360)
      have hs4:=hr3.lt
      have hs5:=hl4.size
      have hn4:Blk (w4.alloc (.cells (QCC 4 (.int .u64 0)).toArray 360)) w4.heap.size 360 (QCC 4 (.int .u64 0)):=Blk.new _ _ _
      clear hr3 L3 hl4 hb3)
   | (refine QaA rfl rfl _ _ rfl hn4 rfl rfl rfl ?_;intro w5 hb5 ho5
      have hu5:=hb4.only ho5 (by omega)
      have hr5:=hr4.only ho5 (by omega)
      have L5:=L4.only ho5 (by omega)
      have d5:=hb5.cellD 3 (QcN _ 3 (by omega))
      clear hr4 L4 ho5 hb4)
   | (refine Qbv rfl _ rfl hu5 rfl ?_)
   | (refine QaA rfl rfl _ _ rfl hr5 rfl rfl rfl ?_;intro w6 hb6 ho6))
  exact bodyPost_ret (QgK rfl hb6 rfl) rfl ⟨by rw[hR.out],L5.only ho6 (by omega)⟩
 ·have hz':lim (u+19) 3/9223372036854775808=1:=HL.out.trans hz
  obtain⟨_,hu3⟩:=hu2 hge
  have hm:(u+19)%T255=n%P25:=by rw[←hu3];unfold T255 at *;unfold T256 at *;omega
  have hR:=hid hm
  clear hz hu1 hu2 hu3 hm
  go_enter Tryz.func255,Tryz.ntmps255
  go_wp2_with (first
   | (refine Qad rfl rfl _ _ _ rfl _ _ _ _ hb rfl ?hl rfl (by kernel_rfl) ?_;(case hl=>omega);intro v w1 hv hb1 ho1;simp[go_sem]at hv;subst hv
      rw[Qn7]at hb1
      have hr1:=hr.only ho1 (by omega)
      have L1:Later w w1:=((Qaa _ _).trans (Qaa _ _)).only ho1 (QCP _)
      clear hb hr ho1)
   | (refine Qbv rfl _ rfl hb1 rfl ?_)
   | (go_at_call 316;(with_reducible refine (Qgy (n%T255) _ ?hb19 _).mono ?_);(case hb19=>rw[HQ.out];unfold B64;omega);rintro e w2 ⟨rfl,hl2⟩;rw[HQ.out,←HU.out]
      replace hb1:=hb1.later hl2
      have hr2:=hr1.later hl2
      have L2:=L1.trans hl2
      clear hr1 L1 hl2)
   | (refine QaA rfl rfl _ _ rfl hb1 rfl rfl (Qal _) ?_;intro w3 hb3 ho3
      have hr3:=hr2.only ho3 (by omega)
      have L3:=L2.only ho3 (QCP _)
      clear hr2 L2 ho3 hb1)
   | (refine Qbv rfl _ rfl hb3 rfl ?_)
   | (go_at_call 316;(with_reducible refine (Qrw u _).mono ?_);rintro e w4 ⟨rfl,hl4⟩
      have hb4:=(hb3.later hl4).later (Qaa _ (.cells (QCC 4 (.int .u64 0)).toArray 360))
      have hr4:=(hr3.later hl4).later (Qaa _ (.cells (QCC 4 (.int .u64 0)).toArray 360))
      have L4:=(L3.trans hl4).alloc (.cells (QCC 4 (.int .u64 0)).toArray 360)
      have hs4:=hr3.lt
      have hs5:=hl4.size
      have hn4:Blk (w4.alloc (.cells (QCC 4 (.int .u64 0)).toArray 360)) w4.heap.size 360 (QCC 4 (.int .u64 0)):=Blk.new _ _ _
      clear hr3 L3 hl4 hb3)
   | (refine QaA rfl rfl _ _ rfl hn4 rfl rfl rfl ?_;intro w5 hb5 ho5
      have hu5:=hb4.only ho5 (by omega)
      have hr5:=hr4.only ho5 (by omega)
      have L5:=L4.only ho5 (by omega)
      have d5:=hb5.cellD 3 (QcN _ 3 (by omega))
      clear hr4 L4 ho5 hb4)
   | (refine Qad rfl rfl _ _ _ rfl _ _ _ _ hb5 rfl ?hl rfl (by kernel_rfl) ?_;(case hl=>rw[Qal];omega);intro v w6 hv hb6 ho6;simp[go_sem]at hv;subst hv
      rw[Qn7,hR.out]at hb6
      have hr6:=hr5.only ho6 (by omega)
      have L6:=L5.only ho6 (by omega))
   | (refine Qbv rfl _ rfl hb6 rfl ?_)
   | (refine QaA rfl rfl _ _ rfl hr6 rfl rfl rfl ?_;intro w7 hb7 ho7))
  exact bodyPost_ret (QgK rfl hb7 rfl) rfl ⟨rfl,L6.only ho7 (by omega)⟩
theorem QnU {a a' b b':Value} (h:a=a') (h':b=b'):Ending.returned (.tuple #[a,b])= .returned (.tuple #[a',b']):=by rw[h,h']
set_option maxHeartbeats 1000000 in
theorem Qqz (x y:Nat) (hx:x<B64) (hy:y<B64) (w:World):
 Calls Tryz.prog 354 #[n64 x,n64 y] w fun e w'=>e= .returned (.tuple #[n64 (x*y/B64),n64 (x*y%B64)])∧w=w':=by
 have hB:B64=18446744073709551616:=rfl
 obtain⟨bd,bt,bw,hhi⟩:=Lib.mul64_hi x y hx hy
 rw[←hB]at hhi bd bt bw
 have HH:=hid hhi
 clear hhi hB
 go_enter Tryz.func354,Tryz.ntmps354
 go_wp2
 go_ret2
 exact⟨QnU (congrArg n64 HH.out) (QvD (QD4 (x*y) B64).symm),rfl⟩
theorem Qss (p m c:Nat):p/B64+(p%B64+m)/B64+((p+m)%B64+c)/B64=(p+m+c)/B64:=by
 unfold B64
 omega
set_option maxHeartbeats 1000000 in
theorem Qn8 (x y m c:Nat) (hx:x<B64) (hy:y<B64) (hm:m<B64) (hc:c<B64) (w:World):
 Calls Tryz.prog 325 #[n64 x,n64 y,n64 m,n64 c] w fun e w'=>e= .returned (.tuple #[n64 ((x*y+m+c)%B64),n64 ((x*y+m+c)/B64)])∧w=w':=by
 have H2:=hid (Qss (x*y) m c)
 go_enter Tryz.func325,Tryz.ntmps325
 go_wp2_with (go_at_call 354;(with_reducible refine (Qqz x y hx hy _).mono ?_);rintro e w' ⟨rfl,rfl⟩)
 go_ret2
 exact⟨QnU rfl (congrArg n64 H2.out),rfl⟩
set_option maxHeartbeats 1000000 in
theorem Qoz (a b:Nat) (hsum:a+b<T256) (w:World):
 Calls Tryz.prog 323 #[E a,E b] w fun e w'=>e= .returned (E ((a+b)%P25))∧Later w w':=by
 have hlS:=Qal (a+b)
 have hlA:=Qal a
 go_enter Tryz.func323,Tryz.ntmps323
 go_wp2
 go_loopw [5,7] (fun c i wr=>∃k:Nat,k≤4∧i= .int .i64 k∧c=n64 (carr B64 a b 0 k)∧Blk wr w.heap.size 360 (Qbu (EL (a+b)) (EL a) k)∧Blk wr (w.heap.size+1) 360 (EL b)∧Blk wr (w.heap.size+1+1) 360 (QCC 4 (.int .u64 0))∧Later w wr) (fun _ i _=>4-(intOf i).toNat)
 case atStart=>
  refine⟨0,by omega,rfl,by rw[Qlw];rfl,?_,?_,Blk.new' _ _ (QCC 4 (Value.int .u64 0)) (by simp),((Qaa _ _).trans (Qaa _ _)).trans (Qaa _ _)⟩
  ·rw[Qbh]
   exact ((Blk.new _ _ _).later (Qaa _ _)).later (Qaa _ _)
  ·exact (Blk.new' _ _ _ (by simp)).later (Qaa _ _)
 case round=>
  obtain⟨k,hk4,rfl,rfl,h1,h2,h3,L⟩:=hrel
  by_cases hlt:k<4
  ·have hc:=QnO QaP a b 0 k (by omega)
   have S0:=hid (Qnt QaP a b 0 k)
   have S1:=hid (QiF QaP a b 0 k)
   have d0:=h1.cellD k (u:=n64 (lim a k)) (by rw[Qec _ _ _ _ (by omega) (QCP _) (by omega)];exact QcN a k hlt)
   have d1:=h2.cellD k (QcN b k hlt)
   generalize carr B64 a b 0 k=c at *
   go_wp2
   refine Qag [([0,1,2,3,4,5,6,7],8)] [9,10,11,12] [13,14] (by as_aux_lemma=>kernel_rfl) (by as_aux_lemma=>kernel_rfl) (by intro _ _ d _ _ h;cases d<;>exact h) ?_
   simp only[Qah,pick,QCD,QCE,QCG,QCI,QCH]
   repeat (go_big_quiet_step (fail))
   refine wpQuiet_nil ?_
   go_wp2
   try refine⟨by first|assumption|exact Qab _|exact Qaa _ _|exact Later.refl _,?_⟩
   try simp only[Qah,pick,QCD,QCE,QCG,QCI,QCH]
   repeat (go_big_quiet_step (fail))
   refine wpQuiet_nil ?_
   go_wp2_with (first
    | (refine Qad rfl rfl _ _ _ rfl _ _ _ _ h1.drew rfl ?hl rfl (by kernel_rfl) ?_;(case hl=>rw[Qaw _ _ _ (by omega)];omega);intro v w2 hv hb2 ho2;simp[go_sem]at hv;subst hv))
   go_roundw
   case rel=>
    rw[QaN _ _ _ _ (by omega) (by omega) (by rw[QcN (a+b) k hlt,lim,lim,lim,←QD8 (a+b),←S0.out])]at hb2
    exact⟨k+1,by omega,by go_num,by rw[←S1.out];rfl,hb2,h2.drew.only ho2 (by omega),h3.drew.only ho2 (by omega),(L.trans (Qab _)).only ho2 (QCP _)⟩
   case measure=>simp[intOf];omega
  ·obtain rfl:k=4:=by omega
   rw[QbP _ _ _ hlS hlA]at h1
   go_wp2_with (first
    | (refine Qbv rfl _ rfl h1 rfl ?_)
    | (go_at_call 255;(with_reducible refine (QdU (a+b) hsum _).mono ?_);rintro e w2 ⟨rfl,hl2⟩
       have h32:=h3.later hl2
       have L2:=L.trans hl2)
    | (refine QaA rfl rfl _ _ rfl h32 rfl rfl rfl ?_;intro w3 hb3 ho3))
   exact bodyPost_ret (QgK rfl hb3 rfl) rfl ⟨rfl,L2.only ho3 (by omega)⟩
def mcar (B x a b k:Nat):Nat:=(x*(a%B^k)+b%B^k)/B^k
theorem QlY (B x a b:Nat):mcar B x a b 0=0:=by simp[mcar,Nat.mod_one]
theorem QlS {B:Nat} (hB:0<B) (x a b k:Nat):(x*(a/B^k%B)+b/B^k%B+mcar B x a b k)/B=mcar B x a b (k+1):=by
 have hp:0<B^k:=QEF hB
 rw[mcar,mcar,QbZ,QbZ,QDF,←QDt]
 congr 1
 have e:x*(a%B^k+B^k*(a/B^k%B))+(b%B^k+B^k*(b/B^k%B))=(x*(a%B^k)+b%B^k)+B^k*(x*(a/B^k%B)+b/B^k%B):=by
  rw[QDT,QDT,QEP x]
  omega
 rw[e,QEa _ _ hp,QEB]
theorem mdig {B:Nat} (hB:0<B) (x a b k:Nat):(x*(a/B^k%B)+b/B^k%B+mcar B x a b k)%B=(x*a+b)/B^k%B:=by
 have hp:0<B^k:=QEF hB
 have ea:=QDA a (B^k)
 have eb:=QDA b (B^k)
 have e:x*a+b=(x*(a%B^k)+b%B^k)+B^k*(x*(a/B^k)+b/B^k):=by
  have:x*a=x*(a%B^k)+B^k*(x*(a/B^k)):=by
   rw[QEP,←QDT,QEB,ea]
  rw[QDT]
  omega
 rw[e,QEa _ _ hp,←mcar,QEB (mcar B x a b k),QEY,QEY (x*(a/B^k)+b/B^k),QEY (x*(a/B^k%B)),Nat.mul_mod_mod,QD4,←QEY (x*(a/B^k))]
theorem QqF {B x:Nat} (hx:x<B) (a b k:Nat):mcar B x a b k≤x:=by
 have hp:0<B^k:=QEF (by omega)
 rw[mcar]
 refine Nat.le_of_lt_succ (QDI ?_)
 have h1:=QC8 a hp
 have h2:=QC8 b hp
 have h3:x*(a%B^k)≤x*(B^k-1):=QEg x (by omega)
 rw[Nat.mul_sub,QEq]at h3
 have h4:x≤x*B^k:=QDO x hp
 rw[Nat.succ_eq_add_one,QDT,QEq,QDD (B^k)]
 omega
theorem QuS (a b:Nat) (ha:a<T256) (hb:b<T256) (S c o c2:Nat) (hS:S=38*(a*b/T256)+a*b%T256) (hc:c=S/T256) (ho:o=S%T256) (h2:c2=(o+38*c)/T256):
 c≤38∧c2≤1∧(o+38*c)%T256+38*c2<T256∧((o+38*c)%T256+38*c2)%P25=a*b%P25:=by
 have h:a*b≤(T256-1)*(T256-1):=Nat.mul_le_mul (by omega) (by omega)
 generalize a*b=X at *
 have h3:X/T256<T256:=by
  refine QDI (QD6 h ?_)
  decide
 have hd:=QDA X T256
 have hm:=QC8 X (show 0<T256 by decide)
 generalize X/T256=H at *
 generalize X%T256=L at *
 unfold T256 P25 at *
 omega
def WL (n:Nat):List Value:=(dig B64 8 n).map n64
theorem Qv4 (n i:Nat) (h:i<8):(WL n)[i]?=some (n64 (lim n i)):=by rw[WL,QCY,QfS _ _ _ _ h];rfl
theorem Qyi (a b:Nat) (ha:a<B64^4) (hb:b<B64^4):(QbM B64 (dig B64 4 a) (dig B64 4 b) 8 4).map n64=WL (a*b):=by
 have hl:=Qb0 B64 (dig B64 4 a) (dig B64 4 b) 8 4
 have hlt:=Qe7 QaP (dig B64 4 a) (dig B64 4 b) 8 (QdY QaP 4 a) (QdY QaP 4 b) 4
 have hv:=QgY (B:=B64) (dig B64 4 a) (dig B64 4 b) 8 4 (by rw[QaI];omega) (by rw[QaI];omega)
 rw[QCQ (by rw[QaI];omega),Qd2,Qd2,QC1 ha,QC1 hb]at hv
 have:=QkI _ hlt
 rw[hl,hv]at this
 rw[WL,this]
theorem Qz4 (n i:Nat):lim n (i+4)=lim (n/T256) i:=by
 rw[lim,lim,←Qdx,QDt,←QD2,QEB]
theorem QyO (n i:Nat) (h:i<4):lim n i=lim (n%T256) i:=by
 rw[lim,lim,←Qdm B64 4 n i h,←Qdm B64 4 _ i h,←Qdx,QfR]
theorem Qko (l:List Nat) (i v:Nat):(l.map n64).set i (n64 v)=(l.set i v).map n64:=by rw[QE3]
theorem Qrm (l:List Nat) (i:Nat) (h:i<l.length):(l.map n64)[i]?=some (n64 (l.getD i 0)):=by
 rw[QCY,QCK,QCJ h]
 rfl
theorem Qq7 {n m:Nat} (h:n%T256=m%T256):EL n=EL m:=by
 rw[EL,EL,←QfR,←QfR (n:=m),Qdx,h]
theorem QvE {n m:Nat} (h:n%T256=m%T256):E n=E m:=by rw[E,E,Qq7 h]
theorem Qyj (x m c:Nat) (hx:x<B64) (hm:m<B64) (hc:c<B64) (w:World):
 Calls Tryz.prog 325 #[n64 x,.int .u64 38,n64 m,n64 c] w fun e w'=>e= .returned (.tuple #[n64 ((x*38+m+c)%B64),n64 ((x*38+m+c)/B64)])∧w=w':=Qn8 x 38 m c hx (by decide) hm hc w
theorem Qia (B:Nat) (xs ys:List Nat) (n i x m:Nat) (hx:xs.getD i 0=x) (hm:ys.length=m):QbM B xs ys n (i+1)=(Qbo B x ys (QbM B xs ys n i) i m).1.set (i+m) (Qbo B x ys (QbM B xs ys n i) i m).2:=by
 subst hx
 subst hm
 rfl
theorem QjN (B x:Nat) (ys ws:List Nat) (i j y:Nat) (hy:ys.getD j 0=y):Qbo B x ys ws i (j+1)=((Qbo B x ys ws i j).1.set (i+j) ((x*y+(Qbo B x ys ws i j).1.getD (i+j) 0+(Qbo B x ys ws i j).2)%B),
 (x*y+(Qbo B x ys ws i j).1.getD (i+j) 0+(Qbo B x ys ws i j).2)/B):=by
 subst hy
 rfl
set_option maxRecDepth 100000 in
set_option maxHeartbeats 4000000 in
theorem QdL (a b:Nat) (ha:a<T256) (hb:b<T256) (w:World):
 Calls Tryz.prog 268 #[E a,E b] w fun e w'=>e= .returned (E (a*b%P25))∧Later w w':=by
 have HP:=hid (Qyi a b (by rw[Qdx];exact ha) (by rw[Qdx];exact hb))
 have hla:=fun i (h:i<4)=>Qdm B64 4 a i h
 have hlb:=fun i (h:i<4)=>Qdm B64 4 b i h
 have hal:=QdY QaP 4 a
 have hbl:=QdY QaP 4 b
 have hAl:=QaI B64 4 a
 have hBl:=QaI B64 4 b
 have ha0:Blk (((w.alloc (.cells (EL a).toArray 360)).alloc (.cells (EL b).toArray 360))) w.heap.size 360 (EL a):=(Blk.new _ _ _).later (Qaa _ _)
 have hb0:Blk (((w.alloc (.cells (EL a).toArray 360)).alloc (.cells (EL b).toArray 360))) (w.heap.size+1) 360 (EL b):=(Blk.new' _ _ _ (by simp))
 generalize hdA:dig B64 4 a=dA at *
 generalize hdB:dig B64 4 b=dB at *
 have HA:=hid hdA
 have HB:=hid hdB
 have HLA:=hid hla
 have HLB:=hid hlb
 have HAl:=hid hAl
 have HBl:=hid hBl
 clear hdA hdB hla hlb hAl hBl
 go_enter Tryz.func268,Tryz.ntmps268
 go_wp2
 go_loopw [12] (fun i wr=>∃k:Nat,k≤4∧i= .int .i64 k∧Blk wr w.heap.size 360 (EL a)∧Blk wr (w.heap.size+1) 360 (EL b)∧Blk wr (w.heap.size+1+1) 360 (QCC 4 (.int .u64 0))∧Blk wr (w.heap.size+1+1+1) 520 ((QbM B64 dA dB 8 k).map n64)∧Later w wr) (fun i _=>4-(intOf i).toNat)
 case atStart=>
  have L0:Later w ((w.alloc (.cells (EL a).toArray 360)).alloc (.cells (EL b).toArray 360)):=(Qaa _ _).trans (Qaa _ _)
  exact⟨0,by omega,rfl,(ha0.later (Qaa _ _)).later (Qaa _ _),(hb0.later (Qaa _ _)).later (Qaa _ _),(Blk.new' _ _ (QCC 4 (Value.int .u64 0)) (by simp)).later (Qaa _ _),Blk.new' _ _ (QCC 8 (Value.int .u64 0)) (by simp),(L0.alloc _).alloc _⟩
 case round=>
  clear ha0 hb0
  obtain⟨k,hk4,rfl,h1,h2,h3,h4,L⟩:=hrel
  by_cases hlt:k<4
  ·have hpl:=Qb0 B64 dA dB 8 k
   have hpt:=Qe7 QaP dA dB 8 hal hbl k
   have da:=h1.cellD k (QcN a k hlt)
   have HS:=hid (Qia B64 dA dB 8 k (lim a k) 4 (HLA.out k hlt) HBl.out)
   generalize QbM B64 dA dB 8 k=ws at *
   have HPL:=hid hpl
   clear hpl
   have hkb:decide ((k:Int)<4)=true:=by simp;omega
   go_wp2
   go_loopw [7,15] (fun c i wr=>∃j:Nat,j≤4∧i= .int .i64 j∧c=n64 (Qbo B64 (lim a k) dB ws k j).2∧Blk wr w.heap.size 360 (EL a)∧Blk wr (w.heap.size+1) 360 (EL b)∧Blk wr (w.heap.size+1+1) 360 (QCC 4 (.int .u64 0))∧Blk wr (w.heap.size+1+1+1) 520 ((Qbo B64 (lim a k) dB ws k j).1.map n64)∧Later w wr) (fun _ i _=>4-(intOf i).toNat)
   case atStart=>exact⟨0,by omega,rfl,rfl,h1,h2,h3,h4,L⟩
   case round=>
    clear h1 h2 h3 h4 L da
    obtain⟨j,hj4,rfl,rfl,h1,h2,h3,h4,L⟩:=hrel
    have hrl:=QcF B64 (lim a k) dB ws k j
    obtain⟨hrt,hct⟩:=Qhx (B:=B64) (lim a k) dB ws k (QC8 _ QaP) hbl hpt j
    by_cases hlj:j<4
    ·have da:=h1.cellD k (QcN a k hlt)
     have db:=h2.cellD j (QcN b j hlj)
     have dw:=h4.cellD (k+j) (Qrm _ _ (by rw[hrl,HPL.out];omega))
     have hwl:=QiI QaP hrt (k+j)
     have HR:=hid (QjN B64 (lim a k) dB ws k j (lim b j) (HLB.out j hlj))
     generalize (Qbo B64 (lim a k) dB ws k j).2=c at *
     generalize (Qbo B64 (lim a k) dB ws k j).1.getD (k+j) 0=v at *
     generalize (Qbo B64 (lim a k) dB ws k j).1=vs at *
     have HRL:=hid hrl
     clear hrl
     have hkj:IntKind.i64.wrap ((k:Int)+(j:Int))=((k+j:Nat):Int):=by rw[IntKind.wrap_i64];omega
     go_wp2_with fail
     refine Qag [([0,1,2,3,4,5,6,7,8,9,10,11,12,13,14],15)] [16,17,18,19] [20,21] (by as_aux_lemma=>kernel_rfl) (by as_aux_lemma=>kernel_rfl) (by intro _ _ d _ _ h;cases d<;>exact h) ?_
     simp only[Qah,pick,QCD,QCE,QCG,QCI,QCH]
     repeat (go_big_quiet_step (fail))
     refine wpQuiet_nil ?_
     go_wp2_with fail
     (with_reducible refine (Qn8 (lim a k) (lim b j) v c (QC8 _ QaP) (QC8 _ QaP) hwl hct _).mono ?_)
     rintro e w2 ⟨rfl,rfl⟩
     go_wp2_with fail
     try refine⟨by first|assumption|exact Qab _|exact Qaa _ _|exact Later.refl _,?_⟩
     try simp only[Qah,pick,QCD,QCE,QCG,QCI,QCH]
     repeat (go_big_quiet_step (fail))
     refine wpQuiet_nil ?_
     go_wp2_with (first
      | (refine Qad rfl rfl _ _ _ rfl _ _ _ _ h4.drew rfl ?hl rfl (by kernel_rfl) ?_;(case hl=>rw[QCF,HRL.out,HPL.out];omega);intro v w2 hv hb2 ho2;simp[go_sem]at hv;subst hv)
      | fail)
     go_roundw
     case rel=>
      rw[Qko]at hb2
      exact⟨j+1,by omega,by go_num,by rw[HR.out],h1.drew.only ho2 (by omega),h2.drew.only ho2 (by omega),h3.drew.only ho2 (by omega),by rw[HR.out];exact hb2,(L.trans (Qab _)).only ho2 (by omega)⟩
     case measure=>simp[intOf];omega
    ·obtain rfl:j=4:=by omega
     generalize hc4:(Qbo B64 (lim a k) dB ws k 4).2=c at *
     generalize hv4:(Qbo B64 (lim a k) dB ws k 4).1=vs at *
     have HRL:=hid hrl
     have HC4:=hid hc4
     have HV4:=hid hv4
     clear hrl hc4 hv4
     go_wp2_with (first
      | (refine Qad rfl rfl _ _ _ rfl _ _ _ _ h4 rfl ?hl rfl (by kernel_rfl) ?_;(case hl=>rw[QCF,HRL.out,HPL.out];omega);intro v w2 hv hb2 ho2;simp[go_sem]at hv;subst hv)
      | fail)
     go_roundw
     case rel=>
      rw[Qko]at hb2
      exact⟨k+1,by omega,by go_num,h1.only ho2 (by omega),h2.only ho2 (by omega),h3.only ho2 (by omega),by rw[HS.out];exact hb2,L.only ho2 (by omega)⟩
     case measure=>simp[intOf];omega
  ·rw[show k=4 by omega,HP.out]at h4
   have hkf:decide ((k:Int)<4)=false:=by simp;omega
   have hX:a*b/T256<T256:=by
    refine QDI (QD6 (Nat.mul_le_mul (Nat.le_sub_one_of_lt ha) (Nat.le_sub_one_of_lt hb)) ?_)
    decide
   obtain⟨hm1,hm2,hm3,hm4⟩:=QuS a b ha hb _ _ _ _ rfl rfl rfl rfl
   have hlo:=fun i h=>QyO (a*b) i h
   have hhi:=fun i=>Qz4 (a*b) i
   have hlm:=QC8 (a*b) (show 0<T256 by decide)
   have HR:=hid hm4
   clear hm4
   generalize hRR:a*b%P25=R at *
   have HRR:=hid ((congrArg (· %P25) (QDD b a)).trans hRR)
   clear hRR
   generalize hXX:a*b=X at *
   clear hXX HP HA HB HLA HLB HAl HBl hal hbl ha hb
   generalize X/T256=H at *
   generalize X%T256=Lo at *
   have HLO:=hid hlo
   have HHI:=hid hhi
   clear hlo hhi
   have hSl:=Qal (38*H+Lo)
   go_wp2_with fail
   have hn0:Blk (wr.alloc (.cells (QCC 4 (Value.int .u64 0)).toArray 360)) wr.heap.size 360 (QCC 4 (.int .u64 0)):=Blk.new _ _ _
   have hsz:=h4.lt
   go_loopw [10,44] (fun c i wx=>∃k:Nat,k≤4∧i= .int .i64 k∧c=n64 (mcar B64 38 H Lo k)∧Blk wx wr.heap.size 360 (Qbu (EL (38*H+Lo)) (QCC 4 (.int .u64 0)) k)∧Blk wx (w.heap.size+1+1) 360 (QCC 4 (.int .u64 0))∧Blk wx (w.heap.size+1+1+1) 520 (WL X)∧Later w wx) (fun _ i _=>4-(intOf i).toNat)
   case atStart=>exact⟨0,by omega,rfl,by rw[QlY];rfl,by rw[Qbh];exact hn0,h3.later (Qaa _ _),h4.later (Qaa _ _),L.trans (Qaa _ _)⟩
   case round=>
    clear h1 h2 h3 h4 L hn0
    obtain⟨k,hk4,rfl,rfl,h1,h3,h4,L⟩:=hrel
    by_cases hlt:k<4
    ·have hc:=QqF (show 38<B64 by decide) H Lo k
     have S0:=hid (mdig QaP 38 H Lo k)
     have S1:=hid (QlS QaP 38 H Lo k)
     have d0:=h4.cellD k (Qv4 X k (by omega))
     have d1:=h4.cellD (k+4) (Qv4 X (k+4) (by omega))
     rw[HLO.out k hlt]at d0
     rw[HHI.out k]at d1
     generalize mcar B64 38 H Lo k=c at *
     have hkj:IntKind.i64.wrap ((k:Int)+4)=((k+4:Nat):Int):=by rw[IntKind.wrap_i64];omega
     go_wp2_with fail
     refine Qag [([0,1,2,3,4,5,6,7,8],9)] [10,11,12,13] [14,15] (by as_aux_lemma=>kernel_rfl) (by as_aux_lemma=>kernel_rfl) (by intro _ _ d _ _ h;cases d<;>exact h) ?_
     simp only[Qah,pick,QCD,QCE,QCG,QCI,QCH]
     repeat (go_big_quiet_step (fail))
     refine wpQuiet_nil ?_
     go_wp2_with fail
     (with_reducible refine (Qyj (lim H k) (lim Lo k) c (QC8 _ QaP) (QC8 _ QaP) (QD6 hc (by decide)) _).mono ?_)
     rintro e w2 ⟨rfl,rfl⟩
     go_wp2_with fail
     try refine⟨by first|assumption|exact Qab _|exact Qaa _ _|exact Later.refl _,?_⟩
     try simp only[Qah,pick,QCD,QCE,QCG,QCI,QCH]
     repeat (go_big_quiet_step (fail))
     refine wpQuiet_nil ?_
     go_wp2_with (first
      | (refine Qad rfl rfl _ _ _ rfl _ _ _ _ h1.drew rfl ?hl rfl (by kernel_rfl) ?_;(case hl=>rw[Qaw _ _ _ (by rw[hSl];rfl)];exact hlt);intro v w2 hv hb2 ho2;simp[go_sem]at hv;subst hv)
      | fail)
     go_roundw
     case rel=>
      have e0:=S0.out
      have e1:=S1.out
      rw[QDD 38]at e0 e1
      rw[QaN _ _ _ _ (by rw[hSl];rfl) hlt (by rw[QcN _ k hlt,lim,lim,lim,←e0])]at hb2
      exact⟨k+1,by omega,by go_num,by rw[←e1];rfl,hb2,h3.drew.only ho2 (by omega),h4.drew.only ho2 (by omega),(L.trans (Qab _)).only ho2 (by omega)⟩
     case measure=>simp[intOf];omega
    ·obtain rfl:k=4:=by omega
     have hc4:mcar B64 38 H Lo 4=(38*H+Lo)/T256:=by rw[mcar,Qdx,QC1 hX,QC1 hlm]
     rw[QbP _ _ _ hSl rfl]at h1
     have HC4:=hid hc4
     clear hc4
     generalize hS:38*H+Lo=S at *
     have e2:(S%B64^4+38*(S/T256))/B64^4=(S%T256+38*(S/T256))/T256:=by rw[Qdx]
     have HE:=hid e2
     clear e2
     have hp1:=Qgy S (38*(S/T256)) (by unfold B64;omega)
     rw[HE.out]at hp1
     generalize hcc:(S%T256+38*(S/T256))/T256=c2 at *
     have hp2:=Qgy (S+38*(S/T256)) (38*c2) (by unfold B64;omega)
     have hEq:E (S+38*(S/T256)+38*c2)=E ((S%T256+38*(S/T256))%T256+38*c2):=QvE (by unfold T256;omega)
     have hn:=QdU _ hm3
     rw[HR.out]at hn
     have HQ:=hid hEq
     have HN:=hid hn
     have HP1:=hid hp1
     have HP2:=hid hp2
     clear hEq hn hp1 hp2
     generalize (S%T256+38*(S/T256))%T256+38*c2=fin at *
     generalize hcd:S/T256=c1 at *
     have hcd':n64 (mcar B64 38 H Lo 4)=n64 c1:=by rw[HC4.out]
     generalize mcar B64 38 H Lo 4=c0 at *
     obtain rfl:c0=c1:=HC4.out
     clear hcd' HC4 HE
     go_wp2_with (first
      | (refine Qbv rfl _ rfl h1 rfl ?_)
      | (go_at_call 316;(with_reducible refine (HP1.out _).mono ?_);rintro e w2 ⟨rfl,hl2⟩
         have h12:=h1.later hl2
         have h32:=h3.later hl2
         have L2:=L.trans hl2
         clear HP1)
      | (refine QaA rfl rfl _ _ rfl h12 rfl rfl (Qal _) ?_;intro w3 hb3 ho3
         have h33:=h32.only ho3 (by omega)
         have L3:=L2.only ho3 (by omega)
         clear h32 h12 L2)
      | (refine Qbv rfl _ rfl hb3 rfl ?_)
      | (go_at_call 316;(with_reducible refine (HP2.out _).mono ?_);rintro e w4 ⟨rfl,hl4⟩
         have h14:=hb3.later hl4
         have h34:=h33.later hl4
         have L4:=L3.trans hl4
         rw[HQ.out]
         clear HP2)
      | (refine QaA rfl rfl _ _ rfl h14 rfl rfl (Qal _) ?_;intro w5 hb5 ho5
         have h35:=h34.only ho5 (by omega)
         have L5:=L4.only ho5 (by omega)
         clear h34 h14 L4)
      | (refine Qbv rfl _ rfl hb5 rfl ?_)
      | (go_at_call 255;(with_reducible refine (HN.out _).mono ?_);rintro e w6 ⟨rfl,hl6⟩
         have h36:=h35.later hl6
         have L6:=L5.trans hl6)
      | (refine QaA rfl rfl _ _ rfl h36 rfl rfl rfl ?_;intro w7 hb7 ho7)
      | fail)
     exact bodyPost_ret (QgK rfl hb7 rfl) rfl ⟨by rw[QDD a b];exact congrArg (fun t=>Ending.returned (E t)) HRR.out.symm,L6.only ho7 (by omega)⟩
theorem Qvq {n:Nat} (h:n<B64):EL n=[n64 n,.int .u64 0,.int .u64 0,.int .u64 0]:=by
 have e:∀k,0<k→n/B64^k%B64=0:=fun k hk=>Qmc h k hk
 have e1:dig B64 4 n=[n/B64^0%B64,n/B64^1%B64,n/B64^2%B64,n/B64^3%B64]:=by
  rw[Qfs,Qfs,Qfs,Qfs]
  rfl
 rw[EL,e1,e 1 (by omega),e 2 (by omega),e 3 (by omega),QEW,Nat.div_one,QC1 h]
 rfl
@[go_sem] theorem Qz5 (n:Nat):(n%P25<T256)=True:=eq_true (QDG (QC8 _ Qbd) (by decide))
@[go_sem] theorem Qzd (n:Nat):(n%P25<P25)=True:=eq_true (QC8 _ Qbd)
def ofs (l:List Nat):List UInt64:=l.map QC7
theorem Qjz (n:Nat):EL n=(ofs (dig B64 4 n)).map W64:=by rw[EL,ofs,List.map_map];rfl
theorem QwN {l m:List Nat} (hl:∀x∈l,x<B64) (hm:∀x∈m,x<B64) (h:ofs l=ofs m):l=m:=by
 have e:∀l:List Nat,(∀ x∈l,x<B64)→(ofs l).map UInt64.toNat=l:=by
  intro l hl
  rw[ofs,List.map_map]
  conv=>rhs;rw[←List.map_id l]
  apply QES
  intro x hx
  exact tn64 (hl x hx)
 rw[←e l hl,←e m hm,h]
theorem QnV {x y:Nat} (hx:x<T256) (hy:y<T256):(ofs (dig B64 4 x)==ofs (dig B64 4 y))=(x==y):=by
 rw[QDw,beq_iff_eq,beq_iff_eq]
 refine⟨fun h=>?_,fun h=>by rw[h]⟩
 have:=QwN (QdY QaP 4 x) (QdY QaP 4 y) h
 exact Qsd (k:=4) (B:=B64) (by rw[Qdx];exact hx) (by rw[Qdx];exact hy) this
theorem QsJ:(Tryz.prog.info? 40).map (·.size)=some 1:=by kernel_rfl
theorem QCc:Tryz.prog.eqGuardType Tryz.prog.depth 360=false:=by kernel_rfl
@[go_sem high] theorem Qzs (op:BinOp) (x y:Operand) (xs ys:Array Value) (w:World):(eqGuard op 360 x y (.agg xs) (.agg ys)).run Tryz.prog w= .ok () w:=run_eqGuard_agg w op _ x y xs ys QCc
@[go_sem high] theorem QyZ (x y:Nat) (hx:x<T256) (hy:y<T256) (w:World):(binOp .eql 360 (E x) (E y)).run Tryz.prog w= .ok (.bool (x==y)) w:=by
  rw[run_eql_struct,Qjz,Qjz,Qa8 w 0 W64 9998 360 40 4 Tryz.underlying360 QsJ Tryz.underlying40 rfl (Qim _ _ Tryz.underlying40) _ _ (by rw[ofs,QCF,QaI]) (by rw[ofs,QCF,QaI]),QnV hx hy]
  rfl
@[go_sem high] theorem QAa (x y:Nat) (hx:x<T256) (hy:y<T256) (w:World):(binOp .neq 360 (E x) (E y)).run Tryz.prog w= .ok (.bool (x != y)) w:=by
  rw[run_neq_struct,Qjz,Qjz,Qa8 w 0 W64 9998 360 40 4 Tryz.underlying360 QsJ Tryz.underlying40 rfl (Qim _ _ Tryz.underlying40) _ _ (by rw[ofs,QCF,QaI]) (by rw[ofs,QCF,QaI]),QnV hx hy]
  rfl
theorem QB8:Tryz.prog.eqGuardType Tryz.prog.depth 359=false:=by kernel_rfl
@[go_sem high] theorem Qzo (op:BinOp) (x y:Operand) (xs ys:Array Value) (w:World):(eqGuard op 359 x y (.agg xs) (.agg ys)).run Tryz.prog w= .ok () w:=run_eqGuard_agg w op _ x y xs ys QB8
@[go_sem high] theorem QAe (x y:Nat) (hx:x<T256) (hy:y<T256) (w:World):(binOp .eql 359 (E x) (E y)).run Tryz.prog w= .ok (.bool (x==y)) w:=by
  rw[run_eql_struct,Qjz,Qjz,Qa8 w 0 W64 9998 359 40 4 Tryz.underlying359 QsJ Tryz.underlying40 rfl (Qim _ _ Tryz.underlying40) _ _ (by rw[ofs,QCF,QaI]) (by rw[ofs,QCF,QaI]),QnV hx hy]
  rfl
set_option maxHeartbeats 1000000 in
theorem Qtm (n:Nat) (hn:n<B64) (w:World):
 Calls Tryz.prog 158 #[n64 n] w fun e w'=>e= .returned (E n)∧Later w w':=by
 have hs:=hid (Qvq hn)
 go_enter Tryz.func158,Tryz.ntmps158
 go_wp2_with (first
  | (refine Qam rfl 360 _ rfl [n64 n,.int .u64 0,.int .u64 0,.int .u64 0] ?hb ?_;(case hb=>kernel_rfl);rw[←hs.out])
  | (refine QaA rfl rfl _ _ rfl (Blk.new w _ (QCC 4 (.int .u64 0))) rfl rfl rfl ?_;intro w3 hb3 ho3))
 exact bodyPost_ret (QgK rfl hb3 rfl) rfl ⟨rfl,(Qaa _ _).only ho3 (by omega)⟩
set_option maxHeartbeats 1000000 in
theorem QgD (n:Nat) (hn:n<T256) (w:World):
 Calls Tryz.prog 266 #[E n] w fun e w'=>e= .returned (E (n*n%P25))∧Later w w':=by
 have hb:Blk ((w.alloc (.cells (EL n).toArray 360)).alloc (.cells (QCC 4 (.int .u64 0)).toArray 360)) w.heap.size 360 (EL n):=(Blk.new _ _ _).later (Qaa _ _)
 have hr:Blk ((w.alloc (.cells (EL n).toArray 360)).alloc (.cells (QCC 4 (.int .u64 0)).toArray 360)) (w.heap.size+1) 360 (QCC 4 (.int .u64 0)):=Blk.new' _ _ _ (by simp)
 go_enter Tryz.func266,Tryz.ntmps266
 go_wp2_with (first
  | (refine Qbv rfl _ rfl hb rfl ?_)
  | (go_at_call 268;(with_reducible refine (QdL n n hn hn _).mono ?_);rintro e w2 ⟨rfl,hl2⟩
     have hr2:=hr.later hl2
     have L2:Later w w2:=((Qaa _ _).trans (Qaa _ _)).trans hl2)
  | (refine QaA rfl rfl _ _ rfl hr2 rfl rfl rfl ?_;intro w3 hb3 ho3)
  | fail)
 exact bodyPost_ret (QgK rfl hb3 rfl) rfl ⟨rfl,L2.only ho3 (by omega)⟩
theorem Qpk (x y b:Nat) (hx:x<B64) (hy:y<B64) (hb:b≤1) (w:World):
 (callFunc 324 #[n64 x,n64 y,n64 b]).run Tryz.prog w= .ok (.value (.tuple #[n64 ((x+B64-y-b)%B64),n64 (if x<y+b then 1 else 0)])) w:=by
 rw[QeJ hx,QeJ hy,QeJ (show b<B64 by unfold B64;omega),run_callFunc_extern Tryz.func324 (by kernel_rfl) (by kernel_rfl) (by kernel_rfl) (e:=sub64Entry) (by kernel_rfl),run_sub64 _ _ _ hb]
 rw[QeJ (QC8 _ QaP),QeJ (show (if x<y+b then 1 else 0)<B64 by split<;>decide)]
 rfl
set_option maxHeartbeats 2000000 in
theorem Qul (n m:Nat) (hn:n<T256) (hm:m<T256) (w:World):
 Calls Tryz.prog 265 #[E n,E m] w fun e w'=>e= .returned (E ((n+(P25-m%P25))%P25))∧Later w w':=by
 have hm1:m%P25<P25:=QC8 _ Qbd
 have hn1:n%P25<P25:=QC8 _ Qbd
 have hE:=hid (QvE (n:=P25+B64^4-m%P25) (m:=P25-m%P25) (by rw[Qdx];unfold T256 P25 at *;omega))
 have hadd:=hid (Qoz (n%P25) (P25-m%P25) (by unfold T256 P25 at *;omega))
 have hb0:Blk ((w.alloc (.cells (EL n).toArray 360)).alloc (.cells (EL m).toArray 360)) w.heap.size 360 (EL n):=(Blk.new _ _ _).later (Qaa _ _)
 have hc0:Blk ((w.alloc (.cells (EL n).toArray 360)).alloc (.cells (EL m).toArray 360)) (w.heap.size+1) 360 (EL m):=Blk.new' _ _ _ (by simp)
 have L0:Later w ((w.alloc (.cells (EL n).toArray 360)).alloc (.cells (EL m).toArray 360)):=(Qaa _ _).trans (Qaa _ _)
 go_enter Tryz.func265,Tryz.ntmps265
 go_wp2_with (first
  | (refine Qam rfl 360 _ rfl (EL P25) ?hb ?_;(case hb=>kernel_rfl))
  | (refine QaA (g:=w.heap.size+1+1+1) rfl rfl _ _ rfl (Blk.new' _ _ (QCC 4 (.int .u64 0)) (by simp)) rfl rfl rfl ?_;intro w3 hb3 ho3
     have hn3:Blk w3 w.heap.size 360 (EL n):=((hb0.later (Qaa _ _)).later (Qaa _ _)).only ho3 (by omega)
     have hm3:Blk w3 (w.heap.size+1) 360 (EL m):=((hc0.later (Qaa _ _)).later (Qaa _ _)).only ho3 (by omega)
     have hr3:Blk w3 (w.heap.size+1+1) 360 (QCC 4 (.int .u64 0)):=((Blk.new' _ _ (QCC 4 (Value.int .u64 0)) (by simp)).later (Qaa _ _)).only ho3 (by omega)
     have L3:Later w w3:=((L0.alloc _).alloc _).only ho3 (by omega)
     clear hb0 hc0 L0 ho3)
  | (refine Qbv rfl _ rfl hm3 rfl ?_)
  | (go_at_call 255;(with_reducible refine (QdU m hm _).mono ?_);rintro e w4 ⟨rfl,hl4⟩)
  | (refine QaA rfl rfl _ _ rfl (hm3.later hl4) rfl rfl (Qal _) ?_;intro w5 hb5 ho5
     have hn5:=(hn3.later hl4).only ho5 (by omega)
     have hr5:=(hr3.later hl4).only ho5 (by omega)
     have hp5:=(hb3.later hl4).only ho5 (by omega)
     have L5:=(L3.trans hl4).only ho5 (by omega)
     clear hn3 hm3 hr3 hb3 L3 hl4 ho5)
  | fail)
 have hlS:=Qal (P25+B64^4-m%P25)
 have hlA:=Qal P25
 have hm1':m%P25<B64^4:=QDG hm1 (by decide)
 have hbl:=hb5.lt
 generalize hMM:m%P25=M at *
 have HM:=hid hMM
 clear hMM
 go_loopw [6,11] (fun c i wr=>∃k:Nat,k≤4∧i= .int .i64 k∧c=n64 (owed B64 P25 M k)∧Blk wr (w.heap.size+1+1+1) 360 (Qbu (EL (P25+B64^4-M)) (EL P25) k)∧Blk wr (w.heap.size+1) 360 (EL M)∧Blk wr w.heap.size 360 (EL n)∧Blk wr (w.heap.size+1+1) 360 (QCC 4 (.int .u64 0))∧Later w wr) (fun _ i _=>4-(intOf i).toNat)
 case atStart=>exact⟨0,by omega,rfl,by rw[Ql5];rfl,by rw[Qbh];exact hp5,hb5,hn5,hr5,L5⟩
 case round=>
  clear hb5 hp5 hn5 hr5 L5
  obtain⟨k,hk4,rfl,rfl,h1,h2,h0,h3,L⟩:=hrel
  by_cases hlt:k<4
  ·have hc:=QjZ B64 P25 M k
   have S0:=hid (Qn0 QaP P25 M k 4 hlt hm1')
   have S1:=hid (QkY QaP P25 M k)
   have d0:=h1.cellD k (u:=n64 (lim P25 k)) (by rw[Qec _ _ _ _ (by omega) (QCP _) (by omega)];exact QcN P25 k hlt)
   have d1:=h2.cellD k (QcN M k hlt)
   generalize owed B64 P25 M k=c at *
   have hsub:∀w,(callFunc 324 #[n64 (lim P25 k),n64 (lim M k),n64 c]).run Tryz.prog w= .ok (.value (.tuple #[n64 ((lim P25 k+B64-lim M k-c)%B64),n64 (if lim P25 k<lim M k+c then 1 else 0)])) w:=fun w=>Qpk _ _ _ (QC8 _ QaP) (QC8 _ QaP) hc w
   obtain⟨X,hX⟩:∃X,X=(lim P25 k+B64-lim M k-c)%B64:=⟨_,rfl⟩
   obtain⟨Y,hY⟩:∃Y,Y=(if lim P25 k<lim M k+c then 1 else 0):=⟨_,rfl⟩
   rw[←hX,←hY]at hsub
   have HX:=hid hX
   have HY:=hid hY
   clear hX hY
   go_wp2_with fail
   refine Qag [([0,1,2,3,4,5,6,7],8)] [9,10,11,12] [13,14] (by as_aux_lemma=>kernel_rfl) (by as_aux_lemma=>kernel_rfl) (by intro _ _ d _ _ h;cases d<;>exact h) ?_
   simp only[Qah,pick,QCD,QCE,QCG,QCI,QCH]
   repeat (go_big_quiet_step (fail))
   refine wpQuiet_nil ?_
   go_wp2_with fail
   try refine⟨by first|assumption|exact Qab _|exact Qaa _ _|exact Later.refl _,?_⟩
   try simp only[Qah,pick,QCD,QCE,QCG,QCI,QCH]
   repeat (go_big_quiet_step (fail))
   refine wpQuiet_nil ?_
   go_wp2_with (first
    | (refine Qad rfl rfl _ _ _ rfl _ _ _ _ h1.drew rfl ?hl rfl (by kernel_rfl) ?_;(case hl=>rw[Qaw _ _ _ (by omega)];omega);intro v w2 hv hb2 ho2;simp[go_sem]at hv;subst hv)
    | fail)
   go_roundw
   case rel=>
    rw[QaN _ _ _ _ (by omega) (by omega) (by rw[QcN _ k hlt,HX.out,lim,lim,lim,S0.out])]at hb2
    exact⟨k+1,by omega,by go_num,by rw[S1.out,HY.out];rfl,hb2,h2.drew.only ho2 (by omega),h0.drew.only ho2 (by omega),h3.drew.only ho2 (by omega),(L.trans (Qab _)).only ho2 (by omega)⟩
   case measure=>simp[intOf];omega
  ·rw[show k=4 by omega,QbP _ _ _ hlS hlA]at h1
   have h1':Blk wr (w.heap.size+1+1+1) 360 (EL (P25-M)):=by
    have e:EL (P25+B64^4-M)=EL (P25-M):=by rw[Qq7];rw[Qdx];unfold T256 P25 at *;omega
    rwa [e]at h1
   have hkf:decide ((k:Int)<4)=false:=by simp;omega
   clear h1 hE
   go_wp2_with fail
   refine Qag [([0,2],1)] [] [3,4] (by as_aux_lemma=>kernel_rfl) (by as_aux_lemma=>kernel_rfl) (by intro _ _ d _ _ h;cases d<;>exact h) ?_
   simp only[Qah,pick,QCD,QCE,QCG,QCI,QCH]
   repeat (first|go_big_quiet_skip|(go_big_quiet_want;(first|refine QcC _ rfl h0.drew rfl ?_|refine QcC _ rfl h1'.drew rfl ?_);simp only[Act.put,QCL,QCO,QCN];go_big_quiet_on)|(go_big_quiet_step (fail)))
   refine wpQuiet_nil ?_
   go_wp2_with fail
   (with_reducible refine (QdU n hn _).mono ?_);rintro e w2 ⟨rfl,hl2⟩
   go_wp2_with fail
   try refine⟨by first|assumption|exact Qab _|exact Qaa _ _|exact Later.refl _,?_⟩
   try simp only[Qah,pick,QCD,QCE,QCG,QCI,QCH]
   repeat (go_big_quiet_step (fail))
   refine wpQuiet_nil ?_
   go_wp2_with fail
   (with_reducible refine (hadd.out _).mono ?_);rintro e w3 ⟨rfl,hl3⟩
   have h33:=((h3.drew.later hl2)).later hl3
   have L3:=((L.trans (Qab _)).trans hl2).trans hl3
   go_wp2_with (refine QaA rfl rfl _ _ rfl h33 rfl rfl rfl ?_;intro w4 hb4 ho4)
   exact bodyPost_ret (QgK rfl hb4 rfl) rfl ⟨by rw[HM.out],L3.only ho4 (by omega)⟩
def lem (n j:Nat):Nat:=n/B32^j%B32
@[go_sem] theorem QCB (n i:Nat):(lem n i<B32)=True:=eq_true (QC8 _ Qa7)
@[go_sem] theorem QAU (n i:Nat):(lem n i<B64)=True:=eq_true (QDG (QC8 _ Qa7) (by decide))
def NL (n:Nat):List Value:=(dig B32 8 n).map n32
abbrev NN (n:Nat):Value:=.agg (NL n).toArray
theorem Qax (n:Nat):(NL n).length=8:=by rw[NL,QCF,QaI]
theorem QdJ (n i:Nat) (h:i<8):(NL n)[i]?=some (n32 (lem n i)):=by rw[NL,QCY,QfS _ _ _ _ h];rfl
@[go_sem] theorem QB5 (n i:Nat) (h:i<(NL n).length):(NL n)[i]=n32 (lem n i):=by
  have:=QdJ n i (by rw[Qax]at h;exact h)
  rw[QCJ h]at this
  exact Option.some.inj this
theorem Qy9 (n:Nat):∀v∈NL n,v.oneCell'=true:=Qxd _
def VL (n:Nat):List Value:=(dig B32 17 n).map n64
abbrev VV (n:Nat):Value:=.agg (VL n).toArray
theorem Qdd (n:Nat):(VL n).length=17:=by rw[VL,QCF,QaI]
theorem Qe6 (n i:Nat) (h:i<17):(VL n)[i]?=some (n64 (lem n i)):=by rw[VL,QCY,QfS _ _ _ _ h];rfl
@[go_sem] theorem Qy5 (n i:Nat) (h:i<(VL n).length):(VL n)[i]=n64 (lem n i):=by
  have:=Qe6 n i (by rw[Qdd]at h;exact h)
  rw[QCJ h]at this
  exact Option.some.inj this
theorem QzF (n:Nat):∀v∈VL n,v.oneCell'=true:=Qrp _
theorem QeG:B32^8=T256:=by decide
theorem Qmw {n m:Nat} (h:n%T256=m%T256):NL n=NL m:=by
 rw[NL,NL,←QfR,←QfR (n:=m),QeG,h]
theorem Qkd:(Tryz.prog.info? 270).map (·.size)=some 8:=by kernel_rfl
theorem QzJ:(Tryz.prog.info? 455).map (·.size)=some 17:=by kernel_rfl
section
variable {ops:Array Oper} {rest:List Oper} {o:Oper} {a:Act} {w:World} {Q:Exit→Act→World→Prop}
theorem QaQ (hgd:Region.wanted o (yielded ops a.tmps)=true) (x:Operand) (ho:o.op= .load 270 x) {g:Nat} {t:TypeId} {n:Nat} (hb:Blk w g t (NL n)) (hx:a.eval x= .pointer (some ⟨g,0,none⟩))
 (h:wpList Tryz.prog ops Q rest (a.put o.dst (NN n)) w):wpList Tryz.prog ops Q (o :: rest) a w:=
 Qbn hgd _ x ho g t _ hb hx _ Tryz.underlying270 rfl 8 Qkd (Qax n) h
theorem Qau (hgd:o.guard=none) (hd:o.dst=none) (x y:Operand) (ho:o.op= .store 270 x y) {g:Nat} {t:TypeId} {l:List Value} {n:Nat} (hg:Blk w g t l) (hx:a.eval x= .pointer (some ⟨g,0,none⟩)) (hy:a.eval y=NN n) (hl:l.length=8)
 (h:∀w',Blk w' g t (NL n)→Only g w w'→wpList Tryz.prog ops Q rest a w'):wpList Tryz.prog ops Q (o :: rest) a w:=
 QaC hgd hd _ x y ho g t l _ hg hx hy 8 Qkd (Qax n) hl (Qy9 n) h
theorem QkA {fn:Func} {p:Tmp} (hf:fn.results= #[.cell p 270]) {tmps:Array Value} {g:Nat} {t:TypeId} {n:Nat} (hg:Blk w g t (NL n)) (hp:tmps.getD p undef= .pointer (some ⟨g,0,none⟩)):
 (results fn tmps).run Tryz.prog w= .ok (NN n) w:=QaR hf tmps w g t _ _ hg hp Tryz.underlying270 rfl (by rw[Qax];exact Qkd)
theorem Qbq {K:Act→Prop} (x:Operand) (ho:o.op= .load 270 x) {w0:World} {g:Nat} {t:TypeId} {n:Nat} (hb:Blk w0 g t (NL n)) (hx:a.eval x= .pointer (some ⟨g,0,none⟩)) (h:K (a.put o.dst (NN n))):
 o.quiet Tryz.prog a (fun w'=>∃x,w'=grow w0 x) K:=
 Qav _ x ho g 0 (NL n) (fun w' hw j v hv=>by obtain⟨y,rfl⟩:=hw;rw[QC4];exact (hb.later ⟨y,rfl⟩).cellD j hv) hx _ Tryz.underlying270 rfl (by rw[Qax];exact Qkd) h
theorem Qk9 (hgd:Region.wanted o (yielded ops a.tmps)=true) (x:Operand) (ho:o.op= .load 455 x) {g:Nat} {t:TypeId} {n:Nat} (hb:Blk w g t (VL n)) (hx:a.eval x= .pointer (some ⟨g,0,none⟩))
 (h:wpList Tryz.prog ops Q rest (a.put o.dst (VV n)) w):wpList Tryz.prog ops Q (o :: rest) a w:=
 Qbn hgd _ x ho g t _ hb hx _ Tryz.underlying455 rfl 17 QzJ (Qdd n) h
theorem Qw8 (hgd:o.guard=none) (hd:o.dst=none) (x y:Operand) (ho:o.op= .store 455 x y) {g:Nat} {t:TypeId} {l:List Value} {n:Nat} (hg:Blk w g t l) (hx:a.eval x= .pointer (some ⟨g,0,none⟩)) (hy:a.eval y=VV n) (hl:l.length=17)
 (h:∀w',Blk w' g t (VL n)→Only g w w'→wpList Tryz.prog ops Q rest a w'):wpList Tryz.prog ops Q (o :: rest) a w:=
 QaC hgd hd _ x y ho g t l _ hg hx hy 17 QzJ (Qdd n) hl (QzF n) h
end
@[go_sem] theorem QBs (T:TypeId) (x:Nat) (yk:IntKind) (k:Int) (h0:0≤k):binOp .shl T (n64 x) (.int yk k)=pure (n64 (x*2^k.toNat)):=by
  rw[n64,Qkh _ _ _ _ h0,Qhk]
  rw[QiU]
  show (BitVec.toNat _)=_
  rw[QEC,QEM]
  show (QC7 x).toNat*_%2^64=_
  rw[QDb,Nat.mod_mul_mod]
  rfl
set_option maxHeartbeats 1000000 in
theorem Qs8 (w:World):
 Calls Tryz.prog 251 #[] w fun e w'=>e= .returned (NN P25)∧Later w w':=by
 go_enter Tryz.func251,Tryz.ntmps251
 go_wp2_with (first
  | (refine Qam rfl 270 _ rfl (NL P25) ?hb ?_;(case hb=>kernel_rfl))
  | (refine Qau rfl rfl _ _ rfl (Blk.new w _ (QCC 8 (.int .u32 0))) rfl rfl rfl ?_;intro w3 hb3 ho3))
 exact bodyPost_ret (QkA rfl hb3 rfl) rfl ⟨rfl,(Qaa _ _).only ho3 (by omega)⟩
set_option maxHeartbeats 1000000 in
theorem Qie (a b:Nat) (hb:b<T256) (w:World):
 Calls Tryz.prog 250 #[NN a,NN b] w fun e w'=>e= .returned (.tuple #[NN (a+T256-b),.bool (owed B32 a b 8==1)])∧Later w w':=by
 have hlS:=Qax (a+T256-b)
 have hlA:=Qax a
 go_enter Tryz.func250,Tryz.ntmps250
 go_wp2
 go_loopw [7,8] (fun c i wr=>∃k:Nat,k≤8∧i= .int .i64 k∧c=n64 (owed B32 a b k)∧Blk wr w.heap.size 270 (NL a)∧Blk wr (w.heap.size+1) 270 (NL b)∧Blk wr (w.heap.size+1+1) 270 (QCC 8 (.int .u32 0))∧Blk wr (w.heap.size+1+1+1) 270 (Qbu (NL (a+T256-b)) (QCC 8 (.int .u32 0)) k)∧Later w wr) (fun _ i _=>8-(intOf i).toNat)
 case atStart=>exact⟨0,by omega,rfl,by rw[Ql5];rfl,(((Blk.new _ _ _).later (Qaa _ _)).later (Qaa _ _)).later (Qaa _ _),((Blk.new' _ _ (NL b) (by simp)).later (Qaa _ _)).later (Qaa _ _),(Blk.new' _ _ (QCC 8 (Value.int .u32 0)) (by simp)).later (Qaa _ _),by rw[Qbh];exact Blk.new' _ _ (QCC 8 (Value.int .u32 0)) (by simp),(((Qaa _ _).trans (Qaa _ _)).trans (Qaa _ _)).trans (Qaa _ _)⟩
 case round=>
  obtain⟨k,hk4,rfl,rfl,h1,h2,h3,h4,L⟩:=hrel
  by_cases hlt:k<8
  ·have d0:=h1.cellD k (QdJ a _ (by omega))
   have d1:=h2.cellD k (QdJ b _ (by omega))
   have hc:=QjZ B32 a b k
   have S0:=hid (Qn0 Qa7 a b k 8 hlt (by rw[QeG];exact hb))
   rw[QeG]at S0
   have S1:=hid (QkY Qa7 a b k)
   have hx:lem a k<B32:=QC8 _ Qa7
   have hy:lem b k<B32:=QC8 _ Qa7
   change Hid (_=if lem a k<lem b k+owed B32 a b k then 1 else 0)at S1
   change Hid ((lem a k+B32-lem b k-owed B32 a b k)%B32=lem (a+T256-b) k)at S0
   generalize owed B32 a b k=c at *
   have hyc:(lem b k+c<B64)=True:=eq_true (by unfold B64;unfold B32 at hy;omega)
   rcases QDJ (lem a k) (lem b k+c) with hl|hl
   ·have hdl:decide (lem a k<lem b k+c)=true:=by simpa using hl
    have hs:∀w,(binOp .sub 40 (n64 (lem a k+4294967296)) (n64 (lem b k+c))).run Tryz.prog w= .ok (n64 (lem a k+4294967296-(lem b k+c))) w:=fun w=>by
     rw[QrM _ _ _ (by unfold B64;unfold B32 at *;omega) (by unfold B32 at *;omega)]
     rfl
    have HD:=hid (show n32 (lem a k+4294967296-(lem b k+c))=n32 (lem (a+T256-b) k) by rw[←S0.out];apply Qwf;rw[QD4];congr 1;unfold B32;omega)
    have HC:=hid (show owed B32 a b (k+1)=1 by rw[S1.out,if_pos hl])
    go_wp2_with (first
     | (refine Qad rfl rfl _ _ _ rfl _ _ _ _ h4 rfl ?hl rfl (by kernel_rfl) ?_;(case hl=>rw[Qaw _ _ _ (by rw[hlS];rfl)];simp;omega);intro v w6 hv hb6 ho6;simp[go_sem]at hv;subst hv))
    go_roundw
    case rel=>
     rw[HD.out,QaN _ _ _ _ (by rw[hlS];rfl) (by simp;omega) (QdJ _ _ (by omega))]at hb6
     exact⟨k+1,by omega,by go_num,by rw[HC.out];rfl,h1.only ho6 (by omega),h2.only ho6 (by omega),h3.only ho6 (by omega),hb6,L.only ho6 (by omega)⟩
    case measure=>simp[intOf];omega
   ·have hdl:decide (lem a k<lem b k+c)=false:=by simpa using hl
    have hs:∀w,(binOp .sub 40 (n64 (lem a k)) (n64 (lem b k+c))).run Tryz.prog w= .ok (n64 (lem a k-(lem b k+c))) w:=fun w=>by
     rw[QrM _ _ _ (by unfold B64;unfold B32 at *;omega) hl]
     rfl
    have HD:=hid (show n32 (lem a k-(lem b k+c))=n32 (lem (a+T256-b) k) by rw[←S0.out];apply Qwf;rw[QD4];unfold B32;omega)
    have HC:=hid (show owed B32 a b (k+1)=0 by rw[S1.out,if_neg (by omega)])
    go_wp2_with (first
     | (refine Qad rfl rfl _ _ _ rfl _ _ _ _ h4 rfl ?hl rfl (by kernel_rfl) ?_;(case hl=>rw[Qaw _ _ _ (by rw[hlS];rfl)];simp;omega);intro v w6 hv hb6 ho6;simp[go_sem]at hv;subst hv))
    go_roundw
    case rel=>
     rw[HD.out,QaN _ _ _ _ (by rw[hlS];rfl) (by simp;omega) (QdJ _ _ (by omega))]at hb6
     exact⟨k+1,by omega,by go_num,by rw[HC.out];rfl,h1.only ho6 (by omega),h2.only ho6 (by omega),h3.only ho6 (by omega),hb6,L.only ho6 (by omega)⟩
    case measure=>simp[intOf];omega
  ·rw[show k=8 by omega,QbP _ _ _ hlS rfl]at h4
   have hko:owed B32 a b k=owed B32 a b 8:=by rw[show k=8 by omega]
   have hol:=QjZ B32 a b k
   have hoB:(owed B32 a b k<B64)=True:=eq_true (QD6 hol (by decide))
   have HK:=hid hko
   clear hko
   go_wp2_with (first
    | (refine QaQ rfl _ rfl h4 rfl ?_)
    | (refine Qau rfl rfl _ _ rfl h3 rfl rfl rfl ?_;intro w4 hb4 ho4)
    | fail)
   exact bodyPost_ret (Qai rfl _ _ _ _ _ _ hb4 rfl Tryz.underlying270 rfl (by rw[Qax];exact Qkd)) rfl ⟨by rw[←HK.out];rfl,L.only ho4 (by omega)⟩
def decV:Option Value→Nat
 | some (.int _ x)=>x.toNat
 | _=>0
def lies (B k:Nat) (g:Nat) (w:World):Nat:=val B ((QDu k).map fun i=>decV (w.cell? ⟨g,i,none⟩))
theorem Qik (B n:Nat):∀k,(QDu k).map (fun i=>n/B^i%B)=dig B k n
 | 0=>rfl
 | k+1=>by rw[QER,QDq,Qik B n k,Qfs];rfl
theorem QvC {w:World} {g:Nat} {t:TypeId} {n:Nat} (h:Blk w g t (NL n)) (hn:n<T256):lies B32 8 g w=n:=by
 have e:(QDu 8).map (fun i=>decV (w.cell? ⟨g,i,none⟩))=dig B32 8 n:=by
  rw[←Qik]
  apply QES
  intro i hi
  rw[h.cellD i (QdJ n i (QEo.1 hi)),QvR (n:=lem n i) (QC8 _ Qa7)]
  show Int.toNat ((lem n i:Nat):Int)=_
  rw[QEv]
  rfl
 rw[lies,e,Qd2,QeG,QC1 hn]
theorem Qwv {w:World} {g:Nat} {t:TypeId} {n:Nat} (h:Blk w g t (VL n)) (hn:n<B32^17):lies B32 17 g w=n:=by
 have e:(QDu 17).map (fun i=>decV (w.cell? ⟨g,i,none⟩))=dig B32 17 n:=by
  rw[←Qik]
  apply QES
  intro i hi
  rw[h.cellD i (Qe6 n i (QEo.1 hi)),QeJ (n:=lem n i) (QDG (QC8 _ Qa7) (by decide))]
  show Int.toNat ((lem n i:Nat):Int)=_
  rw[QEv]
  rfl
 rw[lies,e,Qd2,QC1 hn]
set_option maxRecDepth 100000 in
set_option maxHeartbeats 2000000 in
theorem Qd0 (n:Nat) (hn:n<T256) (w:World):
 Calls Tryz.prog 149 #[NN n] w fun e w'=>e= .returned (NN (n%P25))∧Later w w':=by
 go_enter Tryz.func149,Tryz.ntmps149
 go_wp2
 go_loopw [] (fun wr=>∃m:Nat,m<T256∧Hid (m%P25=n%P25)∧Blk wr w.heap.size 270 (NL m)∧Blk wr (w.heap.size+1) 270 (QCC 8 (.int .u32 0))∧Later w wr) (fun wr=>lies B32 8 w.heap.size wr)
 case atStart=>exact⟨n,hn,hid rfl,(Blk.new _ _ _).later (Qaa _ _),Blk.new' _ _ (QCC 8 (Value.int .u32 0)) (by simp),(Qaa _ _).trans (Qaa _ _)⟩
 case round=>
  obtain⟨m,hm,HM,h1,h2,L⟩:=hrel
  have hmin:=fun w=>Qie m P25 (by decide) w
  rw[QoJ m P25 8 (by rw[QeG];exact hm) (by decide)]at hmin
  have HMIN:=hid hmin
  clear hmin
  go_wp2_with fail
  refine Qay [0] [([],1,1),([],1,2),([3,4,5],2,6)] [] [7,8] [6] (fun _=>(fun g=>.pointer (some ⟨g,0,none⟩),.cells (QCC 8 (Value.int .u32 0)).toArray 270)) (by as_aux_lemma=>kernel_rfl) (by as_aux_lemma=>kernel_rfl) (by intro _ _ d _ _ h;cases d<;>exact h) (by intro _ _ d _ _ h;cases d<;>exact h) ?_
  simp only[pick,QCE,QCG,QCI,QCH]
  repeat (first|go_big_quiet_skip|(go_big_quiet_want;refine Qbq _ rfl h1.drew rfl ?_;simp only[Act.put,QCL,QCO,QCN];go_big_quiet_on)|(go_big_quiet_step (fail)))
  refine wpQuiet_nil ?_
  refine⟨?mk,?_⟩
  case mk=>
   refine⟨fun o ho=>?_,trivial⟩
   simp only[QCD,QCE,Option.some.injEq]at ho
   subst ho
   refine⟨rfl,fun W=>?_⟩
   unfold execOp
   simp[go_sem]
  simp only[Qbi,pick,QCD,QCE,QCG,QCI,QCH]
  refine wpQuiet_nil ?_
  intro w2 hl2
  go_wp2_with fail
  (with_reducible refine (Qs8 _).mono ?_);rintro e w3 ⟨rfl,hl3⟩
  go_wp2_with fail
  try refine⟨by first|assumption|exact Qab _|exact Qaa _ _|exact Later.refl _,?_⟩
  try simp only[Qah,pick,QCD,QCE,QCG,QCI,QCH]
  repeat (go_big_quiet_step (fail))
  refine wpQuiet_nil ?_
  intro w3' hl3'
  go_wp2_with fail
  (with_reducible refine (HMIN.out _).mono ?_);rintro e w4 ⟨rfl,hl4⟩
  obtain⟨X,hX⟩:∃X:Bool,X=((if m<P25 then 1 else 0)==1):=⟨_,rfl⟩
  rw[←hX]
  have HX:=hid hX
  clear hX
  go_wp2_with fail
  try refine⟨by first|assumption|exact Qab _|exact Qaa _ _|exact Later.refl _,?_⟩
  try simp only[Qah,pick,QCD,QCE,QCG,QCI,QCH]
  repeat (go_big_quiet_step (fail))
  refine wpQuiet_nil ?_
  intro w6 g6 hl6 hg6 _ hb6
  refine wpQuiet_nil ?_
  intro w7 hl7
  have Lr:Later wr w7:=(((((Qab _).trans hl2).trans hl3).trans hl3').trans hl4).trans (hl6.trans hl7)
  have hB:Blk w7 g6 270 (QCC 8 (Value.int .u32 0)):=Blk.later hb6 hl7
  have hA:=h1.later Lr
  have hR:=h2.later Lr
  have L7:=L.trans Lr
  have hlt1:=h1.lt
  have hlt2:=h2.lt
  have hgg:=h1.lt
  clear h2 hl2 hl3 hl3' hl4 hl6 hl7 hb6 Lr
  rcases QDJ m P25 with hmp|hmp
  ·obtain rfl:X=true:=by rw[HX.out,if_pos hmp];rfl
   have hmn:=HM.out
   rw[QC1 hmp]at hmn
   have HN:=hid hmn
   clear hmn
   go_wp2_with (first
    | (refine Qau rfl rfl _ _ rfl hB rfl rfl rfl ?_;intro w8 hb8 ho8
       have hA8:=hA.only ho8 (by omega)
       have hR8:=hR.only ho8 (by omega)
       have L8:=L7.only ho8 (by omega))
    | (refine QaQ rfl _ rfl hA8 rfl ?_)
    | (refine Qau rfl rfl _ _ rfl hR8 rfl rfl rfl ?_;intro w9 hb9 ho9)
    | fail)
   exact bodyPost_ret (QkA rfl hb9 rfl) rfl ⟨by rw[←HN.out],L8.only ho9 (by omega)⟩
  ·obtain rfl:X=false:=by rw[HX.out,if_neg (by omega)];rfl
   have hs1:NL (m+T256-P25)=NL (m-P25):=Qmw (by unfold T256 P25 at *;omega)
   have HS:=hid hs1
   clear hs1
   go_wp2_with (first
    | (refine Qau rfl rfl _ _ rfl hB rfl rfl rfl ?_;intro w8 hb8 ho8
       have hA8:=hA.only ho8 (by omega)
       have hR8:=hR.only ho8 (by omega)
       have L8:=L7.only ho8 (by omega))
    | (refine QaQ rfl _ rfl hb8 rfl ?_)
    | (refine Qau rfl rfl _ _ rfl hA8 rfl rfl (Qax _) ?_;intro w9 hb9 ho9)
    | fail)
   go_roundw
   case rel=>
    rw[HS.out]at hb9
    exact⟨_,_,_,_,_,_,_,_,_,_,_,⟨m-P25,by omega,hid (by rw[←HM.out];exact (Nat.mod_eq_sub_mod hmp).symm),hb9,hR8.only ho9 (by omega),L8.only ho9 (by omega)⟩,rfl⟩
   case measure=>
    rw[HS.out]at hb9
    have e1:=QvC hb9 (by omega)
    have e2:=QvC h1 hm
    have:=Qbd
    omega
theorem Qig {B:Nat} (x:Nat):∀k,(∀ j,j<k→x/B^j%B=0)→x%B^k=0
 | 0,_=>by simp[Nat.mod_one]
 | k+1,h=>by rw[QbZ,Qig x k (fun j hj=>h j (by omega)),h k (by omega),Nat.mul_zero]
theorem Qv8 (n j:Nat):lem n (8+j)=lem (n/T256) j:=by rw[lem,lem,←QeG,QDt,←QD2]
theorem QyK (n j:Nat) (h:j<8):lem n j=lem (n%T256) j:=by
 rw[lem,lem,←Qdm B32 8 n j h,←Qdm B32 8 _ j h,←QeG,QfR]
theorem Qw1 (n:Nat) (hn:n<B32^17) (h:∀j,8≤j→j<17→lem n j=0):n<T256:=by
 have h9:n/T256<B32^9:=QDI (by rw[←QeG,←QD2];exact hn)
 have:=Qig (B:=B32) (n/T256) 9 (fun j hj=>by have:=h (8+j) (by omega) (by omega);rw[Qv8]at this;exact this)
 rw[QC1 h9]at this
 have hd:=QDA n T256
 rw[this,Nat.mul_zero,QC4]at hd
 rw[←hd]
 exact QC8 _ (by decide)
theorem QuF (n j:Nat) (h8:8≤j) (h:lem n j≠0): ¬n<T256:=by
 intro hn
 refine h ?_
 rw[lem,QDy,QEO]
 exact QCX hn (by rw[←QeG];exact QDH (by decide) h8)
theorem QoH {b c:Bool} (h:b=c):Ending.returned (.bool b)= .returned (.bool c):=by rw[h]
set_option maxHeartbeats 1000000 in
theorem QuG (n:Nat) (hn:n<B32^17) (w:World):
 Calls Tryz.prog 315 #[VV n] w fun e w'=>e= .returned (.bool (!decide (n<T256)))∧Later w w':=by
 have HNo:=hid (Qw1 n hn)
 have HYes:=hid (QuF n)
 clear hn
 go_enter Tryz.func315,Tryz.ntmps315
 go_wp2
 go_loopw [3] (fun i wr=>∃k:Nat,8≤k∧k≤17∧i= .int .i64 k∧Hid (∀ j,8≤j→j<k→lem n j=0)∧Blk wr w.heap.size 455 (VL n)∧Later w wr) (fun i _=>17-(intOf i).toNat)
 case atStart=>exact⟨8,by omega,by omega,rfl,hid (fun j h1 h2=>by omega),Blk.new _ _ _,Qaa _ _⟩
 case round=>
  obtain⟨k,hk8,hk,rfl,HZ,h1,L⟩:=hrel
  by_cases hlt:k<17
  ·have d0:=h1.cellD k (Qe6 n k hlt)
   by_cases hz:lem n k=0
   ·have hd:decide (0<lem n k)=false:=by simp[hz]
    have HZ':=hid hz
    clear hz
    go_wp2
    go_roundw
    case rel=>
     refine⟨k+1,by omega,by omega,by go_num,hid (fun j h1 h2=>?_),h1,L⟩
     by_cases hj:j=k
     ·rw[hj];exact HZ'.out
     ·exact HZ.out j h1 (by omega)
    case measure=>simp[intOf];omega
   ·have hd:decide (0<lem n k)=true:=by simp;omega
    have HR:=hid (HYes.out k hk8 hz)
    clear hz
    go_wp2
    go_ret
    exact⟨QoH (by simp only[HR.out,decide_false,Bool.not_false]),L⟩
  ·have HR:=hid (HNo.out (fun j h8 hj=>HZ.out j h8 (by omega)))
   go_wp2
   go_ret
   exact⟨QoH (by simp only[HR.out,decide_true,Bool.not_true]),L⟩
theorem QrO (S:Nat) (hS:S<B32^10):Qbu (VL S) (QCC 17 (.int .u64 0)) 10=VL S:=by
 have hl:=Qdd S
 apply QEU (by rw[Qaw _ _ _ (by rw[hl];rfl),hl];rfl)
 intro i h1 h2
 rw[hl]at h2
 by_cases hi:i<10
 ·have e:(Qbu (VL S) (QCC 17 (.int .u64 0)) 10)[i]?=(VL S)[i]?:=by
   rw[Qbu,QCW (by rw[QC5,hl];omega),QEm,if_pos hi]
  rw[QCJ h1,QCJ (by rw[hl];exact h2)]at e
  exact Option.some.inj e
 ·have e:=Qec (VL S) (QCC 17 (.int .u64 0)) 10 i (by rw[hl];rfl) (by omega) (by simpa using h2)
  rw[QCJ h1,QEj,if_pos h2]at e
  rw[Option.some.inj e,Qy5,lem,QDy,QEO]
  ·rfl
  ·exact QCX hS (QDH (by decide) (by omega))
theorem Qq9 (m:Nat) (h:T256≤m):38*(m/T256)+m%T256<m∧(38*(m/T256)+m%T256)%P25=m%P25:=by
 unfold T256 P25 at *
 omega
set_option maxRecDepth 100000 in
set_option maxHeartbeats 2000000 in
theorem Qjh (n:Nat) (hn:n<B32^17) (w:World):
 Calls Tryz.prog 253 #[VV n] w fun e w'=>e= .returned (NN (n%P25))∧Later w w':=by
 go_enter Tryz.func253,Tryz.ntmps253
 go_wp2
 go_loopw [] (fun wr=>∃m:Nat,m<B32^17∧Hid (m%P25=n%P25)∧Blk wr w.heap.size 455 (VL m)∧Blk wr (w.heap.size+1) 270 (QCC 8 (.int .u32 0))∧Later w wr) (fun wr=>lies B32 17 w.heap.size wr)
 case atStart=>exact⟨n,hn,hid rfl,(Blk.new _ _ _).later (Qaa _ _),Blk.new' _ _ (QCC 8 (Value.int .u32 0)) (by simp),(Qaa _ _).trans (Qaa _ _)⟩
 case round=>
  obtain⟨m,hm,HM,h1,h2,L⟩:=hrel
  have hhi:=hid (QuG m hm)
  rcases QDJ m T256 with hlt|hge
  ·have hb:(!decide (m<T256))=false:=by simpa using hlt
   rw[hb]at hhi
   clear hb
   go_wp2_with (first
    | (refine Qk9 rfl _ rfl h1 rfl ?_)
    | (go_at_call 315;(with_reducible refine (hhi.out _).mono ?_);rintro e w2 ⟨rfl,hl2⟩
       have h12:=h1.later hl2
       have h22:=h2.later hl2
       have L2:=L.trans hl2
       clear hhi)
    | fail)
   have hlS:=Qax m
   have hlz:=h12.lt
   have hlz2:=h22.lt
   go_loopw [7] (fun i wx=>∃k:Nat,k≤8∧i= .int .i64 k∧Blk wx w.heap.size 455 (VL m)∧Blk wx (w.heap.size+1) 270 (QCC 8 (.int .u32 0))∧Blk wx w2.heap.size 270 (Qbu (NL m) (QCC 8 (.int .u32 0)) k)∧Later w wx) (fun i _=>8-(intOf i).toNat)
   case atStart=>exact⟨0,by omega,rfl,h12.later (Qaa _ _),h22.later (Qaa _ _),by rw[Qbh];exact Blk.new _ _ (QCC 8 (Value.int .u32 0)),L2.trans (Qaa _ _)⟩
   case round=>
    clear h12 h22 L2
    obtain⟨k,hk,rfl,h3,h4,h5,L3⟩:=hrel
    by_cases hk8:k<8
    ·have d0:=h3.cellD k (Qe6 m k (by omega))
     go_wp2_with (first
      | (refine Qad rfl rfl _ _ _ rfl _ _ _ _ h5 rfl ?hl rfl (by kernel_rfl) ?_;(case hl=>rw[Qaw _ _ _ (by rw[hlS];rfl)];simp;omega);intro v w6 hv hb6 ho6;simp[go_sem]at hv;subst hv))
     go_roundw
     case rel=>
      rw[QaN _ _ _ _ (by rw[hlS];rfl) (by simp;omega) (QdJ _ _ (by omega))]at hb6
      exact⟨k+1,by omega,by go_num,h3.only ho6 (by omega),h4.only ho6 (by omega),hb6,L3.only ho6 (by have:=L.size;omega)⟩
     case measure=>simp[intOf];omega
    ·rw[show k=8 by omega,QbP _ _ _ hlS rfl]at h5
     have hkf:decide ((k:Int)<8)=false:=by simp;omega
     go_wp2_with (first
      | (refine QaQ rfl _ rfl h5 rfl ?_)
      | (go_at_call 149;(with_reducible refine (Qd0 m hlt _).mono ?_);rintro e w7 ⟨rfl,hl7⟩)
      | (refine Qau rfl rfl _ _ rfl (h4.later hl7) rfl rfl rfl ?_;intro w9 hb9 ho9)
      | fail)
     exact bodyPost_ret (QkA rfl hb9 rfl) rfl ⟨by rw[HM.out],(L3.trans hl7).only ho9 (by omega)⟩
  ·have hb:(!decide (m<T256))=true:=by simpa using hge
   rw[hb]at hhi
   clear hb
   obtain⟨hf1,hf2⟩:=Qq9 m hge
   have hh9:m/T256<B32^9:=QDI (by rw[←QeG,←QD2];exact hm)
   have hhl:=fun j=>Qv8 m j
   have hll:=fun j h=>QyK m j h
   have hlm:=QC8 m (show 0<T256 by decide)
   have hS10:38*(m/T256)+m%T256<B32^10:=by
    have e1:B32^10=4294967296*(4294967296*T256):=by decide
    have e2:B32^9=4294967296*T256:=by decide
    rw[e2]at hh9
    rw[e1]
    omega
   have hd10:(38*(m/T256)+m%T256)/B32^9<B32:=QDI (by rw[←QDF];exact hS10)
   have hdd:lem (38*(m/T256)+m%T256) 9=(38*(m/T256)+m%T256)/B32^9:=QC1 hd10
   have hmE:mcar B32 38 (m/T256) (m%T256) 9=(38*(m/T256)+m%T256)/B32^9:=by
    rw[mcar,QC1 hh9,QC1 (QDG hlm (by decide))]
   rw[←hmE]at hdd
   have HDD:=hid hdd
   have HF2:=hid (hf2.trans HM.out)
   have HF1:=hid hf1
   have HVF:=hid (QrO _ hS10)
   have HHL:=hid hhl
   have HLL:=hid hll
   have HS17:=hid (QCX hS10 (show B32^10≤B32^17 from QDH (by decide) (by omega)))
   have hz8:lem (m%T256) 8=0:=by rw[lem,QDy (by rw[QeG];exact hlm),QEO]
   have HZ8:=hid hz8
   clear hdd hmE hd10 hf1 hf2 hhl hll hS10 hz8 hh9 hlm
   generalize m/T256=H at *
   generalize m%T256=Lo at *
   have hlS:=Qdd (38*H+Lo)
   go_wp2_with (first
    | (refine Qk9 rfl _ rfl h1 rfl ?_)
    | (go_at_call 315;(with_reducible refine (hhi.out _).mono ?_);rintro e w2 ⟨rfl,hl2⟩
       have h12:=(h1.later hl2).later (Qaa _ (.cells (QCC 17 (.int .u64 0)).toArray 455))
       have h22:=(h2.later hl2).later (Qaa _ (.cells (QCC 17 (.int .u64 0)).toArray 455))
       have L2:=(L.trans hl2).trans (Qaa _ (.cells (QCC 17 (.int .u64 0)).toArray 455))
       have hz1:=(h1.later hl2).lt
       have hz2:=(h2.later hl2).lt
       clear hhi)
    | fail)
   go_loopw [4,5] (fun c i wx=>∃k:Nat,k≤9∧i= .int .i64 k∧c=n64 (mcar B32 38 H Lo k)∧Blk wx w.heap.size 455 (VL m)∧Blk wx (w.heap.size+1) 270 (QCC 8 (.int .u32 0))∧Blk wx w2.heap.size 455 (Qbu (VL (38*H+Lo)) (QCC 17 (.int .u64 0)) k)∧Later w wx) (fun _ i _=>9-(intOf i).toNat)
   case atStart=>exact⟨0,by omega,rfl,by rw[QlY];rfl,h12,h22,by rw[Qbh];exact Blk.new _ _ (QCC 17 (Value.int .u64 0)),L2⟩
   case round=>
    clear h12 h22 L2
    obtain⟨k,hk,rfl,rfl,h3,h4,h5,L3⟩:=hrel
    by_cases hk9:k<9
    ·have hc:=QqF (show 38<B32 by decide) H Lo k
     have S0:=hid (mdig Qa7 38 H Lo k)
     have S1:=hid (QlS Qa7 38 H Lo k)
     have d1:=h3.cellD (k+8) (Qe6 m (k+8) (by omega))
     rw[QEB k 8,HHL.out k,QEB 8 k]at d1
     have hlH:lem H k<B32:=QC8 _ Qa7
     have hlL:lem Lo k<B32:=QC8 _ Qa7
     change Hid ((38*lem H k+lem Lo k+mcar B32 38 H Lo k)%B32=lem (38*H+Lo) k)at S0
     change Hid ((38*lem H k+lem Lo k+mcar B32 38 H Lo k)/B32=_)at S1
     by_cases hk8:k<8
     ·have d0:=h3.cellD k (Qe6 m k (by omega))
      rw[HLL.out k hk8]at d0
      generalize mcar B32 38 H Lo k=c at *
      have hsm:(c+lem Lo k+38*lem H k<B64)=True:=eq_true (by unfold B64;unfold B32 at *;omega)
      have E0:=hid (show (c+lem Lo k+38*lem H k)%4294967296=lem (38*H+Lo) k by rw[←S0.out];unfold B32;congr 1;omega)
      have E1:=hid (show (c+lem Lo k+38*lem H k)/4294967296=mcar B32 38 H Lo (k+1) by rw[←S1.out];unfold B32;congr 1;omega)
      go_wp2_with (first
       | (refine Qad rfl rfl _ _ _ rfl _ _ _ _ h5 rfl ?hl rfl (by kernel_rfl) ?_;(case hl=>rw[Qaw _ _ _ (by rw[hlS];rfl)];simp;omega);intro v w6 hv hb6 ho6;simp[go_sem]at hv;subst hv))
      go_roundw
      case rel=>
       rw[E0.out,QaN _ _ _ _ (by rw[hlS];rfl) (by simp;omega) (Qe6 _ _ (by omega))]at hb6
       exact⟨k+1,by omega,by go_num,by rw[E1.out],h3.only ho6 (by omega),h4.only ho6 (by omega),hb6,L3.only ho6 (by have:=L.size;omega)⟩
      case measure=>simp[intOf];omega
     ·have hk8e:lem Lo k=0:=by rw[show k=8 by omega];exact HZ8.out
      have HKE:=hid hk8e
      clear hk8e
      generalize mcar B32 38 H Lo k=c at *
      have hsm:(c+38*lem H k<B64)=True:=eq_true (by unfold B64;unfold B32 at *;omega)
      have E0:=hid (show (c+38*lem H k)%4294967296=lem (38*H+Lo) k by rw[←S0.out,HKE.out];unfold B32;congr 1;omega)
      have E1:=hid (show (c+38*lem H k)/4294967296=mcar B32 38 H Lo (k+1) by rw[←S1.out,HKE.out];unfold B32;congr 1;omega)
      go_wp2_with (first
       | (refine Qad rfl rfl _ _ _ rfl _ _ _ _ h5 rfl ?hl rfl (by kernel_rfl) ?_;(case hl=>rw[Qaw _ _ _ (by rw[hlS];rfl)];simp;omega);intro v w6 hv hb6 ho6;simp[go_sem]at hv;subst hv))
      go_roundw
      case rel=>
       rw[E0.out,QaN _ _ _ _ (by rw[hlS];rfl) (by simp;omega) (Qe6 _ _ (by omega))]at hb6
       exact⟨k+1,by omega,by go_num,by rw[E1.out],h3.only ho6 (by omega),h4.only ho6 (by omega),hb6,L3.only ho6 (by have:=L.size;omega)⟩
      case measure=>simp[intOf];omega
    ·rw[show k=9 by omega]at h5
     have hkf:decide ((k:Int)<9)=false:=by simp;omega
     have HC9:=hid (show n64 (mcar B32 38 H Lo k)=n64 (lem (38*H+Lo) 9) by rw[show k=9 by omega,HDD.out])
     go_wp2_with (first
      | (refine Qad rfl rfl _ _ _ rfl _ _ _ _ h5 rfl ?hl rfl (by kernel_rfl) ?_;(case hl=>rw[Qaw _ _ _ (by rw[hlS];rfl)];simp);intro v w6 hv hb6 ho6;simp[go_sem]at hv;subst hv
         rw[HC9.out,QaN _ _ _ _ (by rw[hlS];rfl) (by simp) (Qe6 _ 9 (by omega)),HVF.out]at hb6
         have h36:=h3.only ho6 (by omega))
      | (refine Qk9 rfl _ rfl hb6 rfl ?_)
      | (refine Qw8 rfl rfl _ _ rfl h36 rfl rfl (Qdd _) ?_;intro w7 hb7 ho7)
      | fail)
     go_roundw
     case rel=>
      repeat apply Exists.intro
      exact⟨⟨38*H+Lo,HS17.out,hid HF2.out,hb7,(h4.only ho6 (by omega)).only ho7 (by omega),(L3.only ho6 (by have:=L.size;omega)).only ho7 (by omega)⟩,rfl⟩
     case measure=>
      have e1:=Qwv hb7 HS17.out
      have e2:=Qwv h1 hm
      have:=HF1.out
      omega
theorem Qpi (S k:Nat) (hk:k≤17) (hS:S<B32^k):Qbu (VL S) (QCC 17 (.int .u64 0)) k=VL S:=by
 have hl:=Qdd S
 apply QEU (by rw[Qaw _ _ _ (by rw[hl];rfl),hl];rfl)
 intro i h1 h2
 rw[hl]at h2
 by_cases hi:i<k
 ·have e:(Qbu (VL S) (QCC 17 (.int .u64 0)) k)[i]?=(VL S)[i]?:=by
   rw[Qbu,QCW (by rw[QC5,hl];omega),QEm,if_pos hi]
  rw[QCJ h1,QCJ (by rw[hl];exact h2)]at e
  exact Option.some.inj e
 ·have e:=Qec (VL S) (QCC 17 (.int .u64 0)) k i (by rw[hl];rfl) (by omega) (by simpa using h2)
  rw[QCJ h1,QEj,if_pos h2]at e
  rw[Option.some.inj e,Qy5,lem,QDy,QEO]
  ·rfl
  ·exact QCX hS (QDH (by decide) (by omega))
set_option maxRecDepth 100000 in
set_option maxHeartbeats 2000000 in
theorem Qxc (a b:Nat) (ha:a<T256) (hb:b<T256) (w:World):
 Calls Tryz.prog 152 #[NN a,NN b] w fun e w'=>e= .returned (NN ((a+b)%P25))∧Later w w':=by
 have hS9:a+b<B32^9:=by
  have:B32^9=4294967296*T256:=by decide
  rw[this]
  omega
 have HVF:=hid (Qpi (a+b) 9 (by omega) hS9)
 have hlS:=Qdd (a+b)
 have h8:carr B32 a b 0 8=lem (a+b) 8:=by
  rw[QuV _ _ _ _ (by rw[QeG];exact ha) (by rw[QeG];exact hb),lem,QC1,QD8]
  exact QDI (by rw[←QDF];exact hS9)
 have HC8:=hid h8
 have HF:=hid (Qjh (a+b) (QCX hS9 (QDH (by decide) (by omega))))
 clear h8 hS9
 go_enter Tryz.func152,Tryz.ntmps152
 go_wp2
 go_loopw [6,7] (fun c i wr=>∃k:Nat,k≤8∧i= .int .i64 k∧c=n64 (carr B32 a b 0 k)∧Blk wr w.heap.size 270 (NL a)∧Blk wr (w.heap.size+1) 270 (NL b)∧Blk wr (w.heap.size+1+1) 270 (QCC 8 (.int .u32 0))∧Blk wr (w.heap.size+1+1+1) 455 (Qbu (VL (a+b)) (QCC 17 (.int .u64 0)) k)∧Later w wr) (fun _ i _=>8-(intOf i).toNat)
 case atStart=>exact⟨0,by omega,rfl,by rw[Qlw];rfl,(((Blk.new _ _ _).later (Qaa _ _)).later (Qaa _ _)).later (Qaa _ _),((Blk.new' _ _ (NL b) (by simp)).later (Qaa _ _)).later (Qaa _ _),(Blk.new' _ _ (QCC 8 (Value.int .u32 0)) (by simp)).later (Qaa _ _),by rw[Qbh];exact Blk.new' _ _ (QCC 17 (Value.int .u64 0)) (by simp),(((Qaa _ _).trans (Qaa _ _)).trans (Qaa _ _)).trans (Qaa _ _)⟩
 case round=>
  obtain⟨k,hk4,rfl,rfl,h1,h2,h3,h4,L⟩:=hrel
  by_cases hlt:k<8
  ·have d0:=h1.cellD k (QdJ a _ (by omega))
   have d1:=h2.cellD k (QdJ b _ (by omega))
   have hc:=QnO Qa7 a b 0 k (by omega)
   have S0:=hid (Qnt Qa7 a b 0 k)
   have S1:=hid (QiF Qa7 a b 0 k)
   have hx:lem a k<B32:=QC8 _ Qa7
   have hy:lem b k<B32:=QC8 _ Qa7
   change Hid ((lem a k+lem b k+carr B32 a b 0 k)%B32=lem (a+b) k)at S0
   change Hid ((lem a k+lem b k+carr B32 a b 0 k)/B32=carr B32 a b 0 (k+1))at S1
   generalize carr B32 a b 0 k=c at *
   have hsm:(c+lem a k+lem b k<B64)=True:=eq_true (by unfold B64;unfold B32 at *;omega)
   have E0:=hid (show (c+lem a k+lem b k)%4294967296=lem (a+b) k by rw[←S0.out];unfold B32;congr 1;omega)
   have E1:=hid (show (c+lem a k+lem b k)/4294967296=carr B32 a b 0 (k+1) by rw[←S1.out];unfold B32;congr 1;omega)
   go_wp2_with fail
   refine Qag [] [0,1,2,3,4,5,6,7,8,9,10,11] [] (by as_aux_lemma=>kernel_rfl) (by as_aux_lemma=>kernel_rfl) (by intro _ _ d _ _ h;cases d<;>exact h) ?_
   simp only[Qah,pick,QCD,QCE,QCG,QCI,QCH]
   repeat (go_big_quiet_step (fail))
   refine wpQuiet_nil ?_
   go_wp2_with (first
    | (refine Qad rfl rfl _ _ _ rfl _ _ _ _ h4.drew rfl ?hl rfl (by kernel_rfl) ?_;(case hl=>rw[Qaw _ _ _ (by rw[hlS];rfl)];simp;omega);intro v w6 hv hb6 ho6;simp[go_sem]at hv;subst hv)
    | fail)
   go_roundw
   case rel=>
    rw[E0.out,QaN _ _ _ _ (by rw[hlS];rfl) (by simp;omega) (Qe6 _ _ (by omega))]at hb6
    exact⟨k+1,by omega,by go_num,by rw[E1.out],h1.drew.only ho6 (by omega),h2.drew.only ho6 (by omega),h3.drew.only ho6 (by omega),hb6,(L.trans (Qab _)).only ho6 (by omega)⟩
   case measure=>simp[intOf];omega
  ·rw[show k=8 by omega]at h4
   have hkf:decide ((k:Int)<8)=false:=by simp;omega
   have HC9:=hid (show n64 (carr B32 a b 0 k)=n64 (lem (a+b) 8) by rw[show k=8 by omega,HC8.out])
   go_wp2_with (first
    | (refine Qad rfl rfl _ _ _ rfl _ _ _ _ h4 rfl ?hl rfl (by kernel_rfl) ?_;(case hl=>rw[Qaw _ _ _ (by rw[hlS];rfl)];simp);intro v w6 hv hb6 ho6;simp[go_sem]at hv;subst hv
       rw[HC9.out,QaN _ _ _ _ (by rw[hlS];rfl) (by simp) (Qe6 _ 8 (by omega)),HVF.out]at hb6
       have h36:=h3.only ho6 (by omega)
       have L6:=L.only ho6 (by omega))
    | (refine Qk9 rfl _ rfl hb6 rfl ?_)
    | (go_at_call 253;(with_reducible refine (HF.out _).mono ?_);rintro e w7 ⟨rfl,hl7⟩)
    | (refine Qau rfl rfl _ _ rfl (h36.later hl7) rfl rfl rfl ?_;intro w9 hb9 ho9)
    | fail)
   exact bodyPost_ret (QkA rfl hb9 rfl) rfl ⟨rfl,(L6.trans hl7).only ho9 (by omega)⟩
theorem Qt1 {B:Nat} (hB:0<B) (a b k n:Nat) (ha:a<B^k) (hb:b<B^k) (hn:k+k≤n):QbM B (dig B k a) (dig B k b) n k=dig B n (a*b):=by
 have hl:=Qb0 B (dig B k a) (dig B k b) n k
 have hlt:=Qe7 hB (dig B k a) (dig B k b) n (QdY hB k a) (QdY hB k b) k
 have hv:=QgY (B:=B) (dig B k a) (dig B k b) n k (by rw[QaI];omega) (by rw[QaI];omega)
 rw[QCQ (by rw[QaI];omega),Qd2,Qd2,QC1 ha,QC1 hb]at hv
 have:=QkI _ hlt
 rw[hl,hv]at this
 exact this.symm
set_option maxRecDepth 100000 in
set_option maxHeartbeats 4000000 in
theorem QjV (a b:Nat) (ha:a<T256) (hb:b<T256) (w:World):
 Calls Tryz.prog 154 #[NN a,NN b] w fun e w'=>e= .returned (NN (a*b%P25))∧Later w w':=by
 have hab:a*b<B32^17:=by
  have h1:a*b≤(T256-1)*(T256-1):=Nat.mul_le_mul (by omega) (by omega)
  exact QD6 h1 (by decide)
 have HF:=hid (Qjh (a*b) hab)
 have HP:=hid (show (QbM B32 (dig B32 8 a) (dig B32 8 b) 17 8).map n64=VL (a*b) by rw[Qt1 Qa7 a b 8 17 (by rw[QeG];exact ha) (by rw[QeG];exact hb) (by omega)];rfl)
 clear hab
 have hla:=fun i (h:i<8)=>Qdm B32 8 a i h
 have hlb:=fun i (h:i<8)=>Qdm B32 8 b i h
 have hal:=QdY Qa7 8 a
 have hbl:=QdY Qa7 8 b
 have hBl:=QaI B32 8 b
 generalize hdA:dig B32 8 a=dA at *
 generalize hdB:dig B32 8 b=dB at *
 have HLA:=hid hla
 have HLB:=hid hlb
 have HBl:=hid hBl
 clear hdA hdB hla hlb hBl
 go_enter Tryz.func154,Tryz.ntmps154
 go_wp2
 go_loopw [6] (fun i wr=>∃k:Nat,k≤8∧i= .int .i64 k∧Blk wr w.heap.size 270 (NL a)∧Blk wr (w.heap.size+1) 270 (NL b)∧Blk wr (w.heap.size+1+1) 270 (QCC 8 (.int .u32 0))∧Blk wr (w.heap.size+1+1+1) 455 ((QbM B32 dA dB 17 k).map n64)∧Later w wr) (fun i _=>8-(intOf i).toNat)
 case atStart=>exact⟨0,by omega,rfl,(((Blk.new _ _ _).later (Qaa _ _)).later (Qaa _ _)).later (Qaa _ _),((Blk.new' _ _ (NL b) (by simp)).later (Qaa _ _)).later (Qaa _ _),(Blk.new' _ _ (QCC 8 (Value.int .u32 0)) (by simp)).later (Qaa _ _),Blk.new' _ _ (QCC 17 (Value.int .u64 0)) (by simp),(((Qaa _ _).trans (Qaa _ _)).trans (Qaa _ _)).trans (Qaa _ _)⟩
 case round=>
  obtain⟨k,hk4,rfl,h1,h2,h3,h4,L⟩:=hrel
  by_cases hlt:k<8
  ·have hpl:=Qb0 B32 dA dB 17 k
   have hpt:=Qe7 Qa7 dA dB 17 hal hbl k
   have HS:=hid (Qia B32 dA dB 17 k (lem a k) 8 (HLA.out k hlt) HBl.out)
   generalize QbM B32 dA dB 17 k=ws at *
   have HPL:=hid hpl
   clear hpl
   have hkb:decide ((k:Int)<8)=true:=by simp;omega
   go_wp2
   go_loopw [7,8] (fun c i wr=>∃j:Nat,j≤8∧i= .int .i64 j∧c=n64 (Qbo B32 (lem a k) dB ws k j).2∧Blk wr w.heap.size 270 (NL a)∧Blk wr (w.heap.size+1) 270 (NL b)∧Blk wr (w.heap.size+1+1) 270 (QCC 8 (.int .u32 0))∧Blk wr (w.heap.size+1+1+1) 455 ((Qbo B32 (lem a k) dB ws k j).1.map n64)∧Later w wr) (fun _ i _=>8-(intOf i).toNat)
   case atStart=>exact⟨0,by omega,rfl,rfl,h1,h2,h3,h4,L⟩
   case round=>
    clear h1 h2 h3 h4 L
    obtain⟨j,hj4,rfl,rfl,h1,h2,h3,h4,L⟩:=hrel
    have hrl:=QcF B32 (lem a k) dB ws k j
    obtain⟨hrt,hct⟩:=Qhx (B:=B32) (lem a k) dB ws k (QC8 _ Qa7) hbl hpt j
    by_cases hlj:j<8
    ·have da:=h1.cellD k (QdJ a k hlt)
     have db:=h2.cellD j (QdJ b j hlj)
     have dw:=h4.cellD (k+j) (Qrm _ _ (by rw[hrl,HPL.out];omega))
     have hwl:=QiI Qa7 hrt (k+j)
     have HR:=hid (QjN B32 (lem a k) dB ws k j (lem b j) (HLB.out j hlj))
     generalize (Qbo B32 (lem a k) dB ws k j).2=c at *
     generalize (Qbo B32 (lem a k) dB ws k j).1.getD (k+j) 0=v at *
     generalize (Qbo B32 (lem a k) dB ws k j).1=vs at *
     have HRL:=hid hrl
     clear hrl
     have hkj:IntKind.i64.wrap ((k:Int)+(j:Int))=((k+j:Nat):Int):=by rw[IntKind.wrap_i64];omega
     have hmul:lem a k*lem b j≤4294967295*4294967295:=Nat.mul_le_mul (Nat.le_of_lt_succ (QC8 _ Qa7)) (Nat.le_of_lt_succ (QC8 _ Qa7))
     have hsm:(c+v+lem a k*lem b j<B64)=True:=eq_true (by unfold B64;unfold B32 at *;omega)
     have HE:(c+v+lem a k*lem b j)=lem a k*lem b j+v+c:=by omega
     have E0:=hid (show (c+v+lem a k*lem b j)%4294967296=(lem a k*lem b j+v+c)%B32 by rw[HE];rfl)
     have E1:=hid (show (c+v+lem a k*lem b j)/4294967296=(lem a k*lem b j+v+c)/B32 by rw[HE];rfl)
     clear HE hmul
     go_wp2_with fail
     refine Qag [] [0,1,2,3,4,5,6,7,8,9,10,11,12,13,14,15,16,17] [] (by as_aux_lemma=>kernel_rfl) (by as_aux_lemma=>kernel_rfl) (by intro _ _ d _ _ h;cases d<;>exact h) ?_
     simp only[Qah,pick,QCD,QCE,QCG,QCI,QCH]
     repeat (go_big_quiet_step (fail))
     refine wpQuiet_nil ?_
     go_wp2_with (first
      | (refine Qad rfl rfl _ _ _ rfl _ _ _ _ h4.drew rfl ?hl rfl (by kernel_rfl) ?_;(case hl=>rw[QCF,HRL.out,HPL.out];omega);intro v w2 hv hb2 ho2;simp[go_sem]at hv;subst hv)
      | fail)
     go_roundw
     case rel=>
      rw[Qko,E0.out]at hb2
      exact⟨j+1,by omega,by go_num,by rw[HR.out,E1.out],h1.drew.only ho2 (by omega),h2.drew.only ho2 (by omega),h3.drew.only ho2 (by omega),by rw[HR.out];exact hb2,(L.trans (Qab _)).only ho2 (by omega)⟩
     case measure=>simp[intOf];omega
    ·obtain rfl:j=8:=by omega
     generalize hc4:(Qbo B32 (lem a k) dB ws k 8).2=c at *
     generalize hv4:(Qbo B32 (lem a k) dB ws k 8).1=vs at *
     have HRL:=hid hrl
     have HC4:=hid hc4
     have HV4:=hid hv4
     clear hrl hc4 hv4
     have hk8:IntKind.i64.wrap ((k:Int)+8)=((k+8:Nat):Int):=by rw[IntKind.wrap_i64];omega
     go_wp2_with (first
      | (refine Qad rfl rfl _ _ _ rfl _ _ _ _ h4 rfl ?hl rfl (by kernel_rfl) ?_;(case hl=>rw[QCF,HRL.out,HPL.out];omega);intro v w2 hv hb2 ho2;simp[go_sem]at hv;subst hv)
      | fail)
     go_roundw
     case rel=>
      rw[Qko]at hb2
      exact⟨k+1,by omega,by go_num,h1.only ho2 (by omega),h2.only ho2 (by omega),h3.only ho2 (by omega),by rw[HS.out];exact hb2,L.only ho2 (by omega)⟩
     case measure=>simp[intOf];omega
  ·rw[show k=8 by omega,HP.out]at h4
   have hkf:decide ((k:Int)<8)=false:=by simp;omega
   go_wp2_with (first
    | (refine Qk9 rfl _ rfl h4 rfl ?_)
    | (go_at_call 253;(with_reducible refine (HF.out _).mono ?_);rintro e w7 ⟨rfl,hl7⟩)
    | (refine Qau rfl rfl _ _ rfl (h3.later hl7) rfl rfl rfl ?_;intro w9 hb9 ho9)
    | fail)
   exact bodyPost_ret (QkA rfl hb9 rfl) rfl ⟨rfl,(L.trans hl7).only ho9 (by omega)⟩
theorem Qu9 (a:Nat) (w:World):
 Calls Tryz.prog 250 #[NN a,NN 38] w fun e w'=>e= .returned (.tuple #[NN (a+T256-38),.bool (owed B32 a 38 8==1)])∧Later w w':=Qie a 38 (by decide) w
set_option maxRecDepth 100000 in
set_option maxHeartbeats 2000000 in
theorem Qxy (a b:Nat) (ha:a<T256) (hb:b<T256) (w:World):
 Calls Tryz.prog 153 #[NN a,NN b] w fun e w'=>e= .returned (NN ((a+(P25-b%P25))%P25))∧Later w w':=by
 have h1:Blk (((w.alloc (.cells (NL a).toArray 270)).alloc (.cells (NL b).toArray 270)).alloc (.cells (QCC 8 (.int .u32 0)).toArray 270)) w.heap.size 270 (NL a):=((Blk.new _ _ _).later (Qaa _ _)).later (Qaa _ _)
 have h2:Blk (((w.alloc (.cells (NL a).toArray 270)).alloc (.cells (NL b).toArray 270)).alloc (.cells (QCC 8 (.int .u32 0)).toArray 270)) (w.heap.size+1) 270 (NL b):=(Blk.new' _ _ (NL b) (by simp)).later (Qaa _ _)
 have h3:Blk (((w.alloc (.cells (NL a).toArray 270)).alloc (.cells (NL b).toArray 270)).alloc (.cells (QCC 8 (.int .u32 0)).toArray 270)) (w.heap.size+1+1) 270 (QCC 8 (.int .u32 0)):=Blk.new' _ _ (QCC 8 (Value.int .u32 0)) (by simp)
 have L:Later w (((w.alloc (.cells (NL a).toArray 270)).alloc (.cells (NL b).toArray 270)).alloc (.cells (QCC 8 (.int .u32 0)).toArray 270)):=((Qaa _ _).trans (Qaa _ _)).trans (Qaa _ _)
 have hmin:=fun w=>Qie (a%P25) (b%P25) (QDG (QC8 _ Qbd) (by decide)) w
 rw[QoJ _ _ 8 (by rw[QeG];exact QDG (QC8 _ Qbd) (by decide)) (by rw[QeG];exact QDG (QC8 _ Qbd) (by decide))]at hmin
 have HMIN:=hid hmin
 clear hmin
 go_enter Tryz.func153,Tryz.ntmps153
 go_wp2_with fail
 refine Qay [0,2] [([],1,1),([],1,3),([],1,4),([5,6,7],2,8)] [] [9,10] [8] (fun _=>(fun g=>.pointer (some ⟨g,0,none⟩),.cells (QCC 8 (Value.int .u32 0)).toArray 270)) (by as_aux_lemma=>kernel_rfl) (by as_aux_lemma=>kernel_rfl) (by intro _ _ d _ _ h;cases d<;>exact h) (by intro _ _ d _ _ h;cases d<;>exact h) ?_
 simp only[pick,QCD,QCE,QCG,QCI,QCH]
 repeat (first|go_big_quiet_skip|(go_big_quiet_want;(first|refine Qbq _ rfl h1.drew rfl ?_|refine Qbq _ rfl h2.drew rfl ?_);simp only[Act.put,QCL,QCO,QCN];go_big_quiet_on)|(go_big_quiet_step (fail)))
 refine wpQuiet_nil ?_
 refine⟨?mk,?_⟩
 case mk=>
  refine⟨fun o ho=>?_,trivial⟩
  simp only[QCD,QCE,Option.some.injEq]at ho
  subst ho
  refine⟨rfl,fun W=>?_⟩
  unfold execOp
  simp[go_sem]
 simp only[Qbi,pick,QCD,QCE,QCG,QCI,QCH]
 refine wpQuiet_nil ?_
 intro v1 j1
 go_wp2_with fail
 (with_reducible refine (Qd0 a ha _).mono ?_);rintro e v2 ⟨rfl,j2⟩
 go_wp2_with fail
 try refine⟨by first|assumption|exact Qab _|exact Qaa _ _|exact Later.refl _,?_⟩
 try simp only[Qah,pick,QCD,QCE,QCG,QCI,QCH]
 repeat (go_big_quiet_step (fail))
 refine wpQuiet_nil ?_
 intro v3 j3
 go_wp2_with fail
 (with_reducible refine (Qd0 b hb _).mono ?_);rintro e v4 ⟨rfl,j4⟩
 go_wp2_with fail
 try refine⟨by first|assumption|exact Qab _|exact Qaa _ _|exact Later.refl _,?_⟩
 try simp only[Qah,pick,QCD,QCE,QCG,QCI,QCH]
 repeat (go_big_quiet_step (fail))
 refine wpQuiet_nil ?_
 intro v5 j5
 go_wp2_with fail
 (with_reducible refine (HMIN.out _).mono ?_);rintro e v6 ⟨rfl,j6⟩
 obtain⟨X,hX⟩:∃X:Bool,X=((if a%P25<b%P25 then 1 else 0)==1):=⟨_,rfl⟩
 rw[←hX]
 have HX:=hid hX
 clear hX
 go_wp2_with fail
 try refine⟨by first|assumption|exact Qab _|exact Qaa _ _|exact Later.refl _,?_⟩
 try simp only[Qah,pick,QCD,QCE,QCG,QCI,QCH]
 repeat (go_big_quiet_step (fail))
 refine wpQuiet_nil ?_
 intro v7 g7 j7 hg7 _ hb7
 refine wpQuiet_nil ?_
 intro v8 j8
 have Lr:=(((((((Qab _).trans j1).trans j2).trans j3).trans j4).trans j5).trans j6).trans (j7.trans j8)
 have hB:Blk v8 g7 270 (QCC 8 (Value.int .u32 0)):=Blk.later hb7 j8
 have hR:=h3.later Lr
 have hlt3:w.heap.size+1+1<g7:=QCX h3.lt hg7
 have L8:=L.trans Lr
 clear h1 h2 h3 j1 j2 j3 j4 j5 j6 j7 j8 hb7 Lr L
 have hap:a%P25<P25:=QC8 _ Qbd
 have hbp:b%P25<P25:=QC8 _ Qbd
 have hres:(a+(P25-b%P25))%P25=(a%P25+(P25-b%P25))%P25:=by rw[Nat.mod_add_mod]
 have HRES:=hid hres
 clear hres
 rcases QDJ (a%P25) (b%P25) with hmp|hmp
 ·obtain rfl:X=true:=by rw[HX.out,if_pos hmp];rfl
  have hfin:(a%P25+T256-b%P25-38)%P25=(a%P25+(P25-b%P25))%P25:=by unfold T256 P25 at *;omega
  have hc1:NL (a%P25+T256-b%P25+T256-38)=NL (a%P25+T256-b%P25-38):=Qmw (by unfold T256 P25 at *;omega)
  have hbd:a%P25+T256-b%P25-38<T256:=by omega
  have HC:=hid hc1
  have HFN:=hid hfin
  clear hc1 hfin hap hbp
  generalize a%P25+T256-b%P25=y at *
  go_wp2_with (first
   | (refine Qau rfl rfl _ _ rfl hB rfl rfl rfl ?_;intro w1 hb1 ho1
      have hR1:=hR.only ho1 (by omega)
      have L1:=L8.only ho1 (by have:=L8.size;omega))
   | (refine QaQ rfl _ rfl hb1 rfl ?_)
   | (refine Qam rfl 270 _ rfl (NL 38) ?hb ?_;(case hb=>kernel_rfl))
   | (go_at_call 250;(with_reducible refine (Qu9 y _).mono ?_);rintro e w2 ⟨rfl,hl2⟩)
   | (refine Qau rfl rfl _ _ rfl (hb1.later hl2) rfl rfl (Qax _) ?_;intro w3 hb3 ho3
      rw[HC.out]at hb3
      have hR3:=(hR1.later hl2).only ho3 (by omega)
      have L3:=(L1.trans hl2).only ho3 (by have:=L8.size;omega))
   | (refine QaQ rfl _ rfl hb3 rfl ?_)
   | (go_at_call 149;(with_reducible refine (Qd0 _ hbd _).mono ?_);rintro e w4 ⟨rfl,hl4⟩)
   | (refine Qau rfl rfl _ _ rfl (hR3.later hl4) rfl rfl rfl ?_;intro w5 hb5 ho5)
   | fail)
  exact bodyPost_ret (QkA rfl hb5 rfl) rfl ⟨by rw[HRES.out,←HFN.out],(L3.trans hl4).only ho5 (by omega)⟩
 ·obtain rfl:X=false:=by rw[HX.out,if_neg (by omega)];rfl
  have hfin:(a%P25-b%P25)%P25=(a%P25+(P25-b%P25))%P25:=by unfold T256 P25 at *;omega
  have hc1:NL (a%P25+T256-b%P25)=NL (a%P25-b%P25):=Qmw (by unfold T256 P25 at *;omega)
  have hbd:a%P25-b%P25<T256:=by unfold T256 P25 at *;omega
  have HC:=hid hc1
  have HFN:=hid hfin
  clear hc1 hfin hap hbp
  generalize a%P25+T256-b%P25=y at *
  generalize a%P25-b%P25=z at *
  go_wp2_with (first
   | (refine Qau rfl rfl _ _ rfl hB rfl rfl rfl ?_;intro w1 hb1 ho1
      rw[HC.out]at hb1
      have hR1:=hR.only ho1 (by omega)
      have L1:=L8.only ho1 (by have:=L8.size;omega))
   | (refine QaQ rfl _ rfl hb1 rfl ?_)
   | (go_at_call 149;(with_reducible refine (Qd0 _ hbd _).mono ?_);rintro e w4 ⟨rfl,hl4⟩)
   | (refine Qau rfl rfl _ _ rfl (hR1.later hl4) rfl rfl rfl ?_;intro w5 hb5 ho5)
   | fail)
  exact bodyPost_ret (QkA rfl hb5 rfl) rfl ⟨by rw[HRES.out,←HFN.out],(L1.trans hl4).only ho5 (by omega)⟩
end Go.Proofs.YticcbmhcgmhohaaGreat
