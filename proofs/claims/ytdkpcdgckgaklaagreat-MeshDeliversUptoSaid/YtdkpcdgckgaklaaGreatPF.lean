/-
  Lemmas for the last text of this claim (part 6 of 20).
-/
import Derived.ArgAppend
import Derived.BigQuiet
import Derived.BigRegion
import Derived.ChangeOld
import Derived.Deep.RegionWith
import Derived.DeepKeys4
import Derived.JoinedCond
import Derived.LaidMore
import Derived.Laws.CopyOwn
import Derived.Laws.Externs
import Derived.Laws.IdiomStrings
import Derived.Laws.Tables
import Derived.Lib.AppendStr
import Derived.Lib.AppendZerosOnto
import Derived.Lib.Mul64
import Derived.Lib.SlBytesConst
import Derived.LoopN
import Derived.Maps.OwnSet
import Derived.OpenShut
import Derived.OrdersHeld
import Derived.ProofKit
import Derived.Shelf.Spec.BitsCarry
import Derived.ShutString
import Derived.Test.YtdkpcdgckgaklaaGreatProg
import Derived.Test.YtdkpcdgckgaklaaGreatRows
import Derived.WalkKit
import Derived.WalkLawsBesides
import Derived.WalkSpells
import Derived.Test.YtdkpcdgckgaklaaGreatPB
import Derived.Test.YtdkpcdgckgaklaaGreatPD
import Derived.Test.YtdkpcdgckgaklaaGreatPE
open BitVec renaming toNat_ushiftRight → QDs, toNat_shiftLeft → QDT
open Bool renaming eq_iff_iff → QDb
open Int renaming toNat_natCast → QEx
open List renaming replicate → QCn, getElem?_cons_succ → QCo, getElem?_cons_zero → QCp, cons_append → QCr, nil_append → QCs, length_map → QCt, getD_eq_getElem?_getD → QCu, getElem?_eq_getElem → QCv, setIfInBounds_toArray → QCw, set_cons_zero → QCy, set_cons_succ → QCz, getElem?_append_left → QCD, take_of_length_le → QCE, getElem?_map → QCH, length_take → QCP, range → QC5, map_append → QC6, mem_map → QC7, getElem?_take → QDt, mem_range → QDC, getElem?_replicate → QD4, range_succ → QEp, ext_getElem → QEt, map_set → QEy
open Nat renaming le_refl → QCx, zero_add → QCI, lt_of_lt_of_le → QCM, mod_eq_of_lt → QCO, mod_lt → QCU, div_eq_of_lt → QDd, div_div_eq_div_mul → QDe, pow_le_pow_right → QDh, div_lt_of_lt_mul → QDm, shiftRight_eq_div_pow → QDo, lt_or_ge → QDq, pow_succ → QDv, lt_trans → QDw, div_add_mod → QDx, mul_add → QDI, mul_comm → QDK, lt_of_le_of_lt → QDN, pow_add → QDO, add_zero → QDP, add_mul_div_left → QDQ, mod_mod → QDY, shiftLeft_eq → QD1, le_mul_of_pos_right → QD3, mul_le_mul_left → QEa, mul_mod → QEb, mul_one → QEi, pow_pos → QEl, mul_left_comm → QEw, add_comm → QEz, add_mod → QED, pow_zero → QEE
open Option renaming toList_some → QCq
open UInt32 renaming ofNat → QCW, toNat_ofNat' → QDX, toNat_inj → QEs
open UInt64 renaming ofNat → QCN, toNat_ofNat' → QCV, toNat_inj → QD2, toNat_toUInt8 → QEv
open UInt8 renaming ofNat → QC2, toNat_inj → QDl, toNat_ofNat' → QDM
set_option linter.all false
namespace Go.Proofs.YtdkpcdgckgaklaaGreat
open Go.RowKit
def B64:Nat:=18446744073709551616
def B32:Nat:=4294967296
theorem Qa1:0<B64:=by decide
theorem Qbd:0<B32:=by decide
def n64 (n:Nat):Value:=W64 (QCN n)
def n32 (n:Nat):Value:=W32 (QCW n)
def n8 (n:Nat):Value:=W8 (QC2 n)
@[go_sem] theorem QBM (n:Nat):(n%B64<B64)=True:=eq_true (QCU _ Qa1)
@[go_sem] theorem QBy (n:Nat):(n%B32<B32)=True:=eq_true (QCU _ Qbd)
theorem QhF {n:Nat} {x:UInt64} (h:x.toNat=n%B64):W64 x=n64 n:=by
 unfold B64 at h
 rw[n64]
 congr 1
 apply QD2.1
 rw[QCV,h]
theorem Qs8 {n:Nat} {x:UInt32} (h:x.toNat=n%B32):W32 x=n32 n:=by
 unfold B32 at h
 rw[n32]
 congr 1
 apply QEs.1
 rw[QDX,h]
theorem n8_w {n:Nat} {x:UInt8} (h:x.toNat=n%256):W8 x=n8 n:=by
 rw[n8]
 congr 1
 apply QDl.1
 rw[QDM,h]
theorem Qwj {n m:Nat} (h:n%B64=m%B64):n64 n=n64 m:=by
 rw[n64]
 apply QhF
 rw[QCV,←h]
 rfl
theorem Qv6 {n m:Nat} (h:n%B32=m%B32):n32 n=n32 m:=by
 rw[n32]
 apply Qs8
 rw[QDX,←h]
 rfl
theorem QCe (x:UInt64):W64 x=n64 x.toNat:=by rw[n64,UInt64.ofNat_toNat]
theorem tn64 {n:Nat} (h:n<B64):(QCN n).toNat=n:=by
 unfold B64 at h
 rw[QCV]
 exact QCO h
theorem tn32 {n:Nat} (h:n<B32):(QCW n).toNat=n:=by
 unfold B32 at h
 rw[QDX]
 exact QCO h
theorem QeU {n:Nat} (h:n<B64):n64 n= .int .u64 (n:Int):=by rw[n64,W64,tn64 h]
theorem Qwg {n:Nat} (h:n<B32):n32 n= .int .u32 (n:Int):=by rw[n32,W32,tn32 h]
theorem Qhb (k:Int) (h0:0≤k) (h1:k<18446744073709551616):Value.int .u64 k=n64 k.toNat:=by
 rw[QeU (by unfold B64;omega)]
 congr 1
 omega
theorem Qym (k:Int) (h0:0≤k) (h1:k<4294967296):Value.int .u32 k=n32 k.toNat:=by
 rw[Qwg (by unfold B32;omega)]
 congr 1
 omega
@[go_sem ↓] theorem QzP (x:Nat):(n64 x).cells= #[n64 x]:=rfl
@[go_sem ↓] theorem Qza (x:Nat):(n32 x).cells= #[n32 x]:=rfl
@[go_sem ↓] theorem QAf (x:Nat):(n8 x).cells= #[n8 x]:=rfl
theorem Qr2 (l:List Nat):∀v∈l.map n64,v.oneCell'=true:=by
 intro v hv
 obtain⟨x,_,rfl⟩:=QC7.1 hv
 rfl
theorem QwS (l:List Nat):∀v∈l.map n32,v.oneCell'=true:=by
 intro v hv
 obtain⟨x,_,rfl⟩:=QC7.1 hv
 rfl
@[go_sem] theorem QA6:(0<B64)=True:=eq_true Qa1
@[go_sem] theorem QBo:(1<B64)=True:=eq_true (by decide)
@[go_sem] theorem QAa:(0<B32)=True:=eq_true Qbd
@[go_sem] theorem QB6:(1<B32)=True:=eq_true (by decide)
section
variable (T:TypeId) (ox oy:Operand)
@[go_sem] theorem Qww (op:BinOp) (x y:Nat):eqGuard op T ox oy (n64 x) (n64 y)=pure ():=Qa9 ..
@[go_sem] theorem Qv3 (op:BinOp) (x:Nat) (k:IntKind) (y:Int):eqGuard op T ox oy (n64 x) (.int k y)=pure ():=Qa9 ..
@[go_sem] theorem QvZ (op:BinOp) (x:Nat) (k:IntKind) (y:Int):eqGuard op T ox oy (.int k y) (n64 x)=pure ():=Qa9 ..
@[go_sem] theorem Qxi (op:BinOp) (x y:Nat):eqGuard op T ox oy (n32 x) (n32 y)=pure ():=Qa9 ..
@[go_sem] theorem QvO (op:BinOp) (x:Nat) (k:IntKind) (y:Int):eqGuard op T ox oy (n32 x) (.int k y)=pure ():=Qa9 ..
@[go_sem] theorem QvY (op:BinOp) (x:Nat) (k:IntKind) (y:Int):eqGuard op T ox oy (.int k y) (n32 x)=pure ():=Qa9 ..
@[go_sem] theorem Qqz (x y:Nat):binOp .add T (n64 x) (n64 y)=pure (n64 (x+y)):=by
  rw[n64,n64,Qmz,QhF]
  rw[UInt64.toNat_add,QCV,QCV]
  unfold B64
  omega
@[go_sem] theorem QAB (x:Nat) (k:Int) (h0:0≤k) (h1:k<18446744073709551616):binOp .add T (n64 x) (.int .u64 k)=pure (n64 (x+k.toNat)):=by rw[Qhb k h0 h1,Qqz]
@[go_sem] theorem QAJ (x:Nat) (k:Int) (h0:0≤k) (h1:k<18446744073709551616):binOp .add T (.int .u64 k) (n64 x)=pure (n64 (k.toNat+x)):=by rw[Qhb k h0 h1,Qqz]
@[go_sem] theorem QqA (x y:Nat) (hx:x<B64) (hy:y≤x):binOp .sub T (n64 x) (n64 y)=pure (n64 (x-y)):=by
  rw[n64,n64,QmV,QhF]
  unfold B64 at hx
  rw[UInt64.toNat_sub,QCV,QCV]
  unfold B64
  omega
@[go_sem] theorem Qnh (x y:Nat):binOp .mul T (n64 x) (n64 y)=pure (n64 (x*y)):=by
  rw[n64,n64,Qmv,QhF]
  rw[UInt64.toNat_mul,QCV,QCV]
  exact (QEb x y B64).symm
@[go_sem] theorem QAL (x:Nat) (k:Int) (h0:0≤k) (h1:k<18446744073709551616):binOp .mul T (n64 x) (.int .u64 k)=pure (n64 (x*k.toNat)):=by rw[Qhb k h0 h1,Qnh]
@[go_sem] theorem QAY (x:Nat) (k:Int) (h0:0≤k) (h1:k<18446744073709551616):binOp .mul T (.int .u64 k) (n64 x)=pure (n64 (k.toNat*x)):=by rw[Qhb k h0 h1,Qnh]
theorem Qgb (x:Nat) (k:Nat):x &&& (2^k-1)=x%2^k:=Nat.and_two_pow_sub_one_eq_mod x k
@[go_sem] theorem Qze (x:Nat):binOp .and T (n64 x) (.int .u64 9223372036854775807)=pure (n64 (x%9223372036854775808)):=by
  rw[n64,Qko _ _ _ (by omega) (by omega),QhF]
  rw[UInt64.toNat_and,QCV,QCV]
  have:=Qgb (x%2^64) 63
  unfold B64
  simp only[Int.reduceToNat,Nat.reducePow,Nat.reduceSub,Nat.reduceMod]at this ⊢
  rw[this]
  omega
@[go_sem] theorem Qy9 (x:Nat):binOp .and T (n64 x) (.int .u64 4294967295)=pure (n64 (x%4294967296)):=by
  rw[n64,Qko _ _ _ (by omega) (by omega),QhF]
  rw[UInt64.toNat_and,QCV,QCV]
  have:=Qgb (x%2^64) 32
  unfold B64
  simp only[Int.reduceToNat,Nat.reducePow,Nat.reduceSub,Nat.reduceMod]at this ⊢
  rw[this]
  omega
@[go_sem] theorem QzT (x:Nat):binOp .and T (n64 x) (.int .u64 1)=pure (n64 (x%2)):=by
  rw[n64,Qko _ _ _ (by omega) (by omega),QhF]
  rw[UInt64.toNat_and,QCV,QCV]
  have:=Qgb (x%2^64) 1
  unfold B64
  simp only[Int.reduceToNat,Nat.reducePow,Nat.reduceSub,Nat.reduceMod]at this ⊢
  rw[this]
  omega
@[go_sem] theorem QxE (x:Nat) (hx:x<B64) (yk:IntKind) (k:Int) (h0:0≤k):binOp .shr T (n64 x) (.int yk k)=pure (n64 (x/2^k.toNat)):=by
  rw[n64,QkO _ _ _ _ h0,QhF]
  rw[Qgt]
  show (BitVec.toNat _)=_
  rw[QDs]
  show (QCN x).toNat >>> _=_
  rw[tn64 hx,QDo]
  have:x/2^k.toNat<B64:=QDN (Nat.div_le_self _ _) hx
  rw[QCO this]
@[go_sem] theorem Qw9 (x:Nat) (hx:x<B64) (k:Int) (h0:0<k) (h1:k<18446744073709551616):binOp .rem T (n64 x) (.int .u64 k)=pure (n64 (x%k.toNat)):=by
  rw[n64,QtV _ _ _ (by omega) h1 (by rw[QCV];omega),QhF]
  rw[UInt64.toNat_mod,tn64 hx,QCV,QCO (show k.toNat<2^64 by omega),QCO (QDN (Nat.mod_le _ _) hx)]
@[go_sem] theorem Qyw (x:Nat):binOp .rem T (n64 x) (.int .u64 4294967296)=pure (n64 (x%B32)):=by
  rw[Qwj (show x%B64=(x%B64)%B64 by rw[QDY]),Qw9 _ _ (QCU _ Qa1) _ (by omega) (by omega)]
  congr 2
  unfold B64 B32
  simp only[Int.reduceToNat]
  omega
theorem QwJ (x y:Nat) (hx:x<B64) (hy:y<B64):binOp .eql T (n64 x) (n64 y)=pure (.bool (x==y)):=by
 rw[n64,n64,QnK]
 congr 2
 rw[QDb]
 simp only[beq_iff_eq,←QD2,tn64 hx,tn64 hy]
@[go_sem] theorem QAT (x:Nat) (k:Int) (hx:x<B64) (h0:0≤k) (h1:k<18446744073709551616):binOp .eql T (n64 x) (.int .u64 k)=pure (.bool (x==k.toNat)):=by
  rw[Qhb k h0 h1,QwJ _ _ _ hx (by unfold B64;omega)]
@[go_sem] theorem QAH (x:Nat) (k:Int) (hx:x<B64) (h0:0≤k) (h1:k<18446744073709551616):binOp .gtr T (n64 x) (.int .u64 k)=pure (.bool (decide (k.toNat<x))):=by
  rw[Qhb k h0 h1,n64,n64,QnQ]
  congr 2
  rw[QDb]
  simp only[decide_eq_true_eq,UInt64.lt_iff_toNat_lt,tn64 hx]
  rw[tn64 (show k.toNat<B64 by unfold B64;omega)]
@[go_sem] theorem QBh (x y:Nat) (hx:x<B64) (hy:y<B64):binOp .lss T (n64 x) (n64 y)=pure (.bool (decide (x<y))):=by
  rw[n64,n64,Qm4]
  congr 2
  rw[QDb]
  simp only[decide_eq_true_eq,UInt64.lt_iff_toNat_lt,tn64 hx,tn64 hy]
end
section
variable {P:Program} (w:World) (S D:TypeId)
@[go_sem] theorem QnL (x:Nat) (hx:x<B32) (hs:(P.underlying S).isSome=true) (hd:P.underlying D=some (.int .u64)):(convert S D (n32 x)).run P w= .ok (n64 x) w:=by
  rw[n32,Qgl _ _ _ _ hs hd,QhF]
  rw[UInt32.toNat_toUInt64,tn32 hx,QCO (show x<B64 by unfold B32 at hx;unfold B64;omega)]
@[go_sem] theorem Qnm (x:Nat) (hs:(P.underlying S).isSome=true) (hd:P.underlying D=some (.int .u32)):(convert S D (n64 x)).run P w= .ok (n32 x) w:=by
  rw[n64,Qf9 _ _ _ _ hs hd,Qs8]
  rw[UInt64.toNat_toUInt32,QCV]
  unfold B32
  omega
@[go_sem] theorem Qoi (x:Nat) (hs:(P.underlying S).isSome=true) (hd:P.underlying D=some (.int .u8)):(convert S D (n64 x)).run P w= .ok (n8 x) w:=by
  rw[n64,QgA _ _ _ _ hs hd,n8_w]
  rw[QEv,QCV]
  omega
@[go_sem] theorem QtQ (P:Program) (w:World) (a:Addr) (m:Mode) (x:Nat):(store a (n64 x) m).run P w=stored P w a (n64 x) m:=run_store P w a _ m rfl
@[go_sem] theorem Qvw (P:Program) (w:World) (a:Addr) (m:Mode) (x:Nat):(store a (n32 x) m).run P w=stored P w a (n32 x) m:=run_store P w a _ m rfl
@[go_sem] theorem QvU (P:Program) (w:World) (a:Addr) (m:Mode) (x:Nat):(store a (n8 x) m).run P w=stored P w a (n8 x) m:=run_store P w a _ m rfl
end
def EL (n:Nat):List Value:=(dig B64 4 n).map n64
abbrev E (n:Nat):Value:=.agg (EL n).toArray
theorem Qan (n:Nat):(EL n).length=4:=by rw[EL,QCt,QaT]
def lim (n i:Nat):Nat:=n/B64^i%B64
@[go_sem] theorem QCj (n i:Nat):(lim n i<B64)=True:=eq_true (QCU _ Qa1)
theorem QcY (n i:Nat) (h:i<4):(EL n)[i]?=some (n64 (lim n i)):=by rw[EL,QCH,Qf1 _ _ _ _ h];rfl
@[go_sem] theorem QsZ (n i:Nat) (h:i<(EL n).length):(EL n)[i]=n64 (lim n i):=by
  have:=QcY n i (by rw[Qan]at h;exact h)
  rw[QCv h]at this
  exact Option.some.inj this
theorem QgV (x y c:Nat) (hx:x<B64) (hy:y<B64) (hc:c≤1) (w:World):
 (callFunc 148 #[n64 x,n64 y,n64 c]).run Tryz.prog w= .ok (.value (.tuple #[n64 ((x+y+c)%B64),n64 ((x+y+c)/B64)])) w:=by
 rw[QeU hx,QeU hy,QeU (show c<B64 by unfold B64;omega),run_callFunc_extern Tryz.func148 (by kernel_rfl) (by kernel_rfl) (by kernel_rfl) (e:=add64Entry) (by kernel_rfl),run_add64 _ _ _ (by omega) (by omega) (by omega) (by omega)]
 simp only[Result.andThen]
 rw[QeU (QCU _ Qa1),QeU (show (x+y+c)/B64<B64 by unfold B64 at *;omega)]
 congr 5<;>(unfold B64;omega)
@[go_sem high] theorem run_add64 (x y c:Nat) (hx:x<B64) (hy:y<B64) (hc:c≤1) (w:World):
   (callFunc 148 #[n64 x,n64 y,n64 c]).run Tryz.prog w= .ok (.value (.tuple #[n64 ((x+y+c)%B64),n64 ((x+y+c)/B64)])) w:=QgV x y c hx hy hc w
@[go_sem high] theorem Qyg (x y:Nat) (hx:x<B64) (hy:y<B64) (w:World):
   (callFunc 148 #[n64 x,n64 y,.int .u64 0]).run Tryz.prog w= .ok (.value (.tuple #[n64 ((x+y)%B64),n64 ((x+y)/B64)])) w:=QgV x y 0 hx hy (by omega) w
@[go_sem high] theorem QwE (x c:Nat) (hx:x<B64) (hc:c≤1) (w:World):
   (callFunc 148 #[n64 x,.int .u64 0,n64 c]).run Tryz.prog w= .ok (.value (.tuple #[n64 ((x+c)%B64),n64 ((x+c)/B64)])) w:=QgV x 0 c hx Qa1 hc w
theorem Qoa (n:Nat):∀v∈EL n,v.oneCell'=true:=Qr2 _
theorem QlA {B n:Nat} (h:n<B) (k:Nat) (hk:0<k):n/B^k%B=0:=by
 rw[QDd (QCM h (Nat.le_pow (by omega))),Nat.zero_mod]
set_option maxHeartbeats 1000000 in
theorem Qgw (a n:Nat) (hn:n<B64) (w:World):
 Calls Tryz.prog 123 #[E a,n64 n] w fun e w'=>e= .returned (.tuple #[E (a+n),n64 ((a%B64^4+n)/B64^4)])∧Later w w':=by
 have hlS:=Qan (a+n)
 have hlA:=Qan a
 have hb:Blk ((w.alloc (.cells (EL a).toArray 175)).alloc (.cells (QCn 4 (.int .u64 0)).toArray 175)) w.heap.size 175 (EL a):=(Blk.new _ _ _).later (Qaa _ _)
 have hr:Blk ((w.alloc (.cells (EL a).toArray 175)).alloc (.cells (QCn 4 (.int .u64 0)).toArray 175)) (w.heap.size+1) 175 (QCn 4 (.int .u64 0)):=Blk.new' _ _ _ (by simp)
 go_enter Tryz.func123,Tryz.ntmps123
 go_wp2_with (first
  | (refine Qac rfl rfl _ _ _ rfl _ _ _ _ hb rfl ?hl rfl (by kernel_rfl) ?_;(case hl=>omega);intro v w1 hv hb1 ho1;simp[go_sem]at hv;subst hv))
 have e0:(lim a 0+n)%B64=lim (a+n) 0:=by
  simp[lim]
 have e1:(lim a 0+n)/B64=carr B64 a n 0 1:=by
  simp[carr,lim,QCO hn]
 rw[e0,←Qbo (EL (a+n)) (EL a),QaX _ _ _ _ (by omega) (by omega) (QcY (a+n) 0 (by omega))]at hb1
 have HE:=hid e1
 clear e0 e1
 have L1:Later w w1:=((Qaa _ _).trans (Qaa _ _)).only ho1 (QCx _)
 have hr1:=hr.only ho1 (by omega)
 go_loopw [6,7] (fun c i wr=>∃k:Nat,1≤k∧k≤4∧i= .int .i64 k∧c=n64 (carr B64 a n 0 k)∧Blk wr w.heap.size 175 (QbI (EL (a+n)) (EL a) k)∧Blk wr (w.heap.size+1) 175 (QCn 4 (.int .u64 0))∧Later w wr) (fun _ i _=>4-(intOf i).toNat)
 case atStart=>exact⟨1,by omega,by omega,rfl,by rw[HE.out],hb1,hr1,L1⟩
 case round=>
  clear hb hr hb1 hr1 L1 ho1 HE
  obtain⟨k,hk1,hk4,rfl,rfl,hb,hr,L⟩:=hrel
  by_cases hlt:k<4
  ·have hc:=Qnq Qa1 a n 0 k (by omega)
   have S0:=hid (QmO Qa1 a n 0 k)
   have S1:=hid (Qin Qa1 a n 0 k)
   have d0:=hb.cellD k (u:=n64 (lim a k)) (by rw[Qes _ _ _ _ (by omega) (QCx _) (by omega)];exact QcY a k hlt)
   generalize carr B64 a n 0 k=c at *
   go_wp2_with (first
    | (refine Qac rfl rfl _ _ _ rfl _ _ _ _ hb rfl ?hl rfl (by kernel_rfl) ?_;(case hl=>rw[QaA _ _ _ (by omega)];omega);intro v w2 hv hb2 ho2;simp[go_sem]at hv;subst hv))
   go_roundw
   case rel=>
    have z:n/B64^k%B64=0:=QlA hn k hk1
    have e0:=S0.out
    have e1:=S1.out
    rw[z]at e0 e1
    rw[QaX _ _ _ _ (by omega) (by omega) (by rw[QcY (a+n) k hlt,lim,lim,←QDP (a+n),←e0,QDP])]at hb2
    exact⟨k+1,by omega,by omega,by go_num,by rw[←e1];rfl,hb2,hr.only ho2 (by omega),L.only ho2 (QCx _)⟩
   case measure=>simp[intOf];omega
  ·obtain rfl:k=4:=by omega
   have hcE:carr B64 a n 0 4=(a%B64^4+n)/B64^4:=by
    rw[carr,QCO (show n<B64^4 from QCM hn (Nat.le_pow (by omega)))]
    rfl
   rw[Qb5 _ _ _ hlS hlA]at hb
   have HC:=hid hcE
   clear hcE
   go_wp2_with (first
    | (refine Qaz rfl 175 _ rfl w.heap.size 0 (EL (a+n)) ?hc ?hx _ Tryz.underlying175 rfl ?hi ?_;(case hx=>rfl);(case hi=>rw[hlS];kernel_rfl);(case hc=>intro j v hv;rw[QCI];exact hb.cellD j hv))
    | (refine Qaj rfl rfl 175 _ _ rfl (w.heap.size+1) 0 175 _ (EL (a+n)) hr ?hx ?hy ?hi ?hf ?h1 ?_;(case hx=>rfl);(case hy=>rfl);(case hi=>rw[hlS];kernel_rfl);(case hf=>simp[hlS]);(case h1=>exact Qoa _);intro w9 hb9 ho9))
   rw[Qao _ _ (by simp[hlS])]at hb9
   exact bodyPost_ret (Qae rfl _ _ _ _ (EL (a+n)) _ hb9 rfl Tryz.underlying175 rfl (by rw[hlS];kernel_rfl)) rfl ⟨by rw[←HC.out];rfl,L.only ho9 (by omega)⟩
def P25:Nat:=57896044618658097711785492504343953926634992332820282019728792003956564819949
def T255:Nat:=57896044618658097711785492504343953926634992332820282019728792003956564819968
def T256:Nat:=115792089237316195423570985008687907853269984665640564039457584007913129639936
theorem QdL:B64^4=T256:=by decide
theorem QbC:0<P25:=by decide
theorem Qq0 (n:Nat) (hn:n<T256):∃u,u=n%T255+19*(n/T255)∧(u+19<T255→u=n%P25)∧(T255≤u+19→u+19<T256∧u+19-T255=n%P25):=by
 refine⟨_,rfl,?_,?_⟩<;>unfold T255 P25 at* <;>unfold T256 at* <;>omega
theorem lim3 (n:Nat) (hn:n<T256):lim n 3/9223372036854775808=n/T255:=by
 unfold lim B64 T255
 unfold T256 at hn
 omega
theorem Qpa (n:Nat):(EL n).set 3 (n64 (lim n 3%9223372036854775808))=EL (n%T255):=by
 have h0:lim n 0=lim (n%T255) 0:=by unfold lim T255 B64;omega
 have h1:lim n 1=lim (n%T255) 1:=by unfold lim T255 B64;omega
 have h2:lim n 2=lim (n%T255) 2:=by unfold lim T255 B64;omega
 have h3:lim n 3%9223372036854775808=lim (n%T255) 3:=by unfold lim T255 B64;omega
 have e:∀m,EL m=[n64 (lim m 0),n64 (lim m 1),n64 (lim m 2),n64 (lim m 3)]:=by
  intro m
  apply QEt (Qan m)
  intro i hi1 hi2
  rw[QsZ]
  have:i=0∨i=1∨i=2∨i=3:=by rw[Qan]at hi1;omega
  rcases this with rfl|rfl|rfl|rfl<;>rfl
 rw[e,e,h0,h1,h2,h3]
 rfl
theorem Qhe:(Tryz.prog.info? 175).map (·.size)=some 4:=by kernel_rfl
section
variable {ops:Array Oper} {rest:List Oper} {o:Oper} {a:Act} {w:World} {Q:Exit→Act→World→Prop}
theorem QbP (hgd:Region.wanted o (yielded ops a.tmps)=true) (x:Operand) (ho:o.op= .load 175 x) {g:Nat} {t:TypeId} {n:Nat} (hb:Blk w g t (EL n)) (hx:a.eval x= .pointer (some ⟨g,0,none⟩))
 (h:wpList Tryz.prog ops Q rest (a.put o.dst (E n)) w):wpList Tryz.prog ops Q (o :: rest) a w:=
 Qbg hgd _ x ho g t _ hb hx _ Tryz.underlying175 rfl 4 Qhe (Qan n) h
theorem QaM (hgd:o.guard=none) (hd:o.dst=none) (x y:Operand) (ho:o.op= .store 175 x y) {g:Nat} {t:TypeId} {l:List Value} {n:Nat} (hg:Blk w g t l) (hx:a.eval x= .pointer (some ⟨g,0,none⟩)) (hy:a.eval y=E n) (hl:l.length=4)
 (h:∀w',Blk w' g t (EL n)→Only g w w'→wpList Tryz.prog ops Q rest a w'):wpList Tryz.prog ops Q (o :: rest) a w:=
 Qaf hgd hd _ x y ho g t l _ hg hx hy 4 Qhe (Qan n) hl (Qoa n) h
theorem QgY {fn:Func} {p:Tmp} (hf:fn.results= #[.cell p 175]) {tmps:Array Value} {g:Nat} {t:TypeId} {n:Nat} (hg:Blk w g t (EL n)) (hp:tmps.getD p undef= .pointer (some ⟨g,0,none⟩)):
 (results fn tmps).run Tryz.prog w= .ok (E n) w:=QaF hf tmps w g t _ _ hg hp Tryz.underlying175 rfl (by rw[Qan];exact Qhe)
theorem QcJ {K:Act→Prop} (x:Operand) (ho:o.op= .load 175 x) {w0:World} {g:Nat} {t:TypeId} {n:Nat} (hb:Blk w0 g t (EL n)) (hx:a.eval x= .pointer (some ⟨g,0,none⟩)) (h:K (a.put o.dst (E n))):
 o.quiet Tryz.prog a (fun w'=>∃x,w'=grow w0 x) K:=
 QaN _ x ho g 0 (EL n) (fun w' hw j v hv=>by obtain⟨y,rfl⟩:=hw;rw[QCI];exact (hb.later ⟨y,rfl⟩).cellD j hv) hx _ Tryz.underlying175 rfl (by rw[Qan];exact Qhe) h
end
theorem Qrt (a:Nat) (w:World):Calls Tryz.prog 123 #[E a,.int .u64 19] w fun e w'=>e= .returned (.tuple #[E (a+19),n64 ((a%B64^4+19)/B64^4)])∧Later w w':=Qgw a 19 (by decide) w
set_option maxHeartbeats 1000000 in
theorem Qee (n:Nat) (hn:n<T256) (w:World):
 Calls Tryz.prog 97 #[E n] w fun e w'=>e= .returned (E (n%P25))∧Later w w':=by
 obtain⟨u,hu,hu1,hu2⟩:=Qq0 n hn
 have hl3:=lim3 n hn
 have hq:n/T255≤1:=by unfold T255;unfold T256 at hn;omega
 have hus:u<T256:=by unfold T255 at hu;unfold T256 at *;omega
 have hus':u+19<T256:=by unfold T255 at hu;unfold T256 at *;omega
 have hlu:=lim3 (u+19) hus'
 have HQ:=hid hl3
 have HU:=hid hu
 have HL:=hid hlu
 clear hl3 hu hlu
 have hlS:=Qan n
 have hb:Blk ((w.alloc (.cells (EL n).toArray 175)).alloc (.cells (QCn 4 (.int .u64 0)).toArray 175)) w.heap.size 175 (EL n):=(Blk.new _ _ _).later (Qaa _ _)
 have hr:Blk ((w.alloc (.cells (EL n).toArray 175)).alloc (.cells (QCn 4 (.int .u64 0)).toArray 175)) (w.heap.size+1) 175 (QCn 4 (.int .u64 0)):=Blk.new' _ _ _ (by simp)
 have hcs:u+19<T255∧(u+19)/T255=0∨T255≤u+19∧(u+19)/T255=1:=by unfold T255;unfold T256 at hus';omega
 rcases hcs with ⟨hlt,hz⟩|⟨hge,hz⟩
 ·have hz':lim (u+19) 3/9223372036854775808=0:=HL.out.trans hz
  have hR:=hid (hu1 hlt)
  clear hz hu1 hu2
  go_enter Tryz.func97,Tryz.ntmps97
  go_wp2_with (first
   | (refine Qac rfl rfl _ _ _ rfl _ _ _ _ hb rfl ?hl rfl (by kernel_rfl) ?_;(case hl=>omega);intro v w1 hv hb1 ho1;simp[go_sem]at hv;subst hv
      rw[Qpa]at hb1
      have hr1:=hr.only ho1 (by omega)
      have L1:Later w w1:=((Qaa _ _).trans (Qaa _ _)).only ho1 (QCx _)
      clear hb hr ho1)
   | (refine QbP rfl _ rfl hb1 rfl ?_)
   | (go_at_call 123;(with_reducible refine (Qgw (n%T255) _ ?hb19 _).mono ?_);(case hb19=>rw[HQ.out];unfold B64;omega);rintro e w2 ⟨rfl,hl2⟩;rw[HQ.out,←HU.out]
      replace hb1:=hb1.later hl2
      have hr2:=hr1.later hl2
      have L2:=L1.trans hl2
      clear hr1 L1 hl2)
   | (refine QaM rfl rfl _ _ rfl hb1 rfl rfl (Qan _) ?_;intro w3 hb3 ho3
      have hr3:=hr2.only ho3 (by omega)
      have L3:=L2.only ho3 (QCx _)
      clear hr2 L2 ho3 hb1)
   | (refine QbP rfl _ rfl hb3 rfl ?_)
   | (go_at_call 123;(with_reducible refine (Qrt u _).mono ?_);rintro e w4 ⟨rfl,hl4⟩
      have hb4:=(hb3.later hl4).later (Qaa _ (.cells (QCn 4 (.int .u64 0)).toArray 175))
      have hr4:=(hr3.later hl4).later (Qaa _ (.cells (QCn 4 (.int .u64 0)).toArray 175))
      have L4:=(L3.trans hl4).alloc (.cells (QCn 4 (.int .u64 0)).toArray 175)
      have hs4:=hr3.lt
      have hs5:=hl4.size
      have hn4:Blk (w4.alloc (.cells (QCn 4 (.int .u64 0)).toArray 175)) w4.heap.size 175 (QCn 4 (.int .u64 0)):=Blk.new _ _ _
      clear hr3 L3 hl4 hb3)
   | (refine QaM rfl rfl _ _ rfl hn4 rfl rfl rfl ?_;intro w5 hb5 ho5
      have hu5:=hb4.only ho5 (by omega)
      have hr5:=hr4.only ho5 (by omega)
      have L5:=L4.only ho5 (by omega)
      have d5:=hb5.cellD 3 (QcY _ 3 (by omega))
      clear hr4 L4 ho5 hb4)
   | (refine QbP rfl _ rfl hu5 rfl ?_)
   | (refine QaM rfl rfl _ _ rfl hr5 rfl rfl rfl ?_;intro w6 hb6 ho6))
  exact bodyPost_ret (QgY rfl hb6 rfl) rfl ⟨by rw[hR.out],L5.only ho6 (by omega)⟩
 ·have hz':lim (u+19) 3/9223372036854775808=1:=HL.out.trans hz
  obtain⟨_,hu3⟩:=hu2 hge
  have hm:(u+19)%T255=n%P25:=by rw[←hu3];unfold T255 at *;unfold T256 at *;omega
  have hR:=hid hm
  clear hz hu1 hu2 hu3 hm
  go_enter Tryz.func97,Tryz.ntmps97
  go_wp2_with (first
   | (refine Qac rfl rfl _ _ _ rfl _ _ _ _ hb rfl ?hl rfl (by kernel_rfl) ?_;(case hl=>omega);intro v w1 hv hb1 ho1;simp[go_sem]at hv;subst hv
      rw[Qpa]at hb1
      have hr1:=hr.only ho1 (by omega)
      have L1:Later w w1:=((Qaa _ _).trans (Qaa _ _)).only ho1 (QCx _)
      clear hb hr ho1)
   | (refine QbP rfl _ rfl hb1 rfl ?_)
   | (go_at_call 123;(with_reducible refine (Qgw (n%T255) _ ?hb19 _).mono ?_);(case hb19=>rw[HQ.out];unfold B64;omega);rintro e w2 ⟨rfl,hl2⟩;rw[HQ.out,←HU.out]
      replace hb1:=hb1.later hl2
      have hr2:=hr1.later hl2
      have L2:=L1.trans hl2
      clear hr1 L1 hl2)
   | (refine QaM rfl rfl _ _ rfl hb1 rfl rfl (Qan _) ?_;intro w3 hb3 ho3
      have hr3:=hr2.only ho3 (by omega)
      have L3:=L2.only ho3 (QCx _)
      clear hr2 L2 ho3 hb1)
   | (refine QbP rfl _ rfl hb3 rfl ?_)
   | (go_at_call 123;(with_reducible refine (Qrt u _).mono ?_);rintro e w4 ⟨rfl,hl4⟩
      have hb4:=(hb3.later hl4).later (Qaa _ (.cells (QCn 4 (.int .u64 0)).toArray 175))
      have hr4:=(hr3.later hl4).later (Qaa _ (.cells (QCn 4 (.int .u64 0)).toArray 175))
      have L4:=(L3.trans hl4).alloc (.cells (QCn 4 (.int .u64 0)).toArray 175)
      have hs4:=hr3.lt
      have hs5:=hl4.size
      have hn4:Blk (w4.alloc (.cells (QCn 4 (.int .u64 0)).toArray 175)) w4.heap.size 175 (QCn 4 (.int .u64 0)):=Blk.new _ _ _
      clear hr3 L3 hl4 hb3)
   | (refine QaM rfl rfl _ _ rfl hn4 rfl rfl rfl ?_;intro w5 hb5 ho5
      have hu5:=hb4.only ho5 (by omega)
      have hr5:=hr4.only ho5 (by omega)
      have L5:=L4.only ho5 (by omega)
      have d5:=hb5.cellD 3 (QcY _ 3 (by omega))
      clear hr4 L4 ho5 hb4)
   | (refine Qac rfl rfl _ _ _ rfl _ _ _ _ hb5 rfl ?hl rfl (by kernel_rfl) ?_;(case hl=>rw[Qan];omega);intro v w6 hv hb6 ho6;simp[go_sem]at hv;subst hv
      rw[Qpa,hR.out]at hb6
      have hr6:=hr5.only ho6 (by omega)
      have L6:=L5.only ho6 (by omega))
   | (refine QbP rfl _ rfl hb6 rfl ?_)
   | (refine QaM rfl rfl _ _ rfl hr6 rfl rfl rfl ?_;intro w7 hb7 ho7))
  exact bodyPost_ret (QgY rfl hb7 rfl) rfl ⟨rfl,L6.only ho7 (by omega)⟩
theorem Qm7 {a a' b b':Value} (h:a=a') (h':b=b'):Ending.returned (.tuple #[a,b])= .returned (.tuple #[a',b']):=by rw[h,h']
set_option maxHeartbeats 1000000 in
theorem Qse (x y:Nat) (hx:x<B64) (hy:y<B64) (w:World):
 Calls Tryz.prog 149 #[n64 x,n64 y] w fun e w'=>e= .returned (.tuple #[n64 (x*y/B64),n64 (x*y%B64)])∧w=w':=by
 have hB:B64=18446744073709551616:=rfl
 obtain⟨bd,bt,bw,hhi⟩:=Lib.mul64_hi x y hx hy
 rw[←hB]at hhi bd bt bw
 have HH:=hid hhi
 clear hhi hB
 go_enter Tryz.func149,Tryz.ntmps149
 go_wp2
 go_ret2
 exact⟨Qm7 (congrArg n64 HH.out) (Qwj (QDY (x*y) B64).symm),rfl⟩
theorem Qr8 (p m c:Nat):p/B64+(p%B64+m)/B64+((p+m)%B64+c)/B64=(p+m+c)/B64:=by
 unfold B64
 omega
set_option maxHeartbeats 1000000 in
theorem Qn7 (x y m c:Nat) (hx:x<B64) (hy:y<B64) (hm:m<B64) (hc:c<B64) (w:World):
 Calls Tryz.prog 126 #[n64 x,n64 y,n64 m,n64 c] w fun e w'=>e= .returned (.tuple #[n64 ((x*y+m+c)%B64),n64 ((x*y+m+c)/B64)])∧w=w':=by
 have H2:=hid (Qr8 (x*y) m c)
 go_enter Tryz.func126,Tryz.ntmps126
 go_wp2_with (go_at_call 149;(with_reducible refine (Qse x y hx hy _).mono ?_);rintro e w' ⟨rfl,rfl⟩)
 go_ret2
 exact⟨Qm7 rfl (congrArg n64 H2.out),rfl⟩
set_option maxHeartbeats 1000000 in
theorem Qo4 (a b:Nat) (hsum:a+b<T256) (w:World):
 Calls Tryz.prog 124 #[E a,E b] w fun e w'=>e= .returned (E ((a+b)%P25))∧Later w w':=by
 have hlS:=Qan (a+b)
 have hlA:=Qan a
 go_enter Tryz.func124,Tryz.ntmps124
 go_wp2
 go_loopw [5,7] (fun c i wr=>∃k:Nat,k≤4∧i= .int .i64 k∧c=n64 (carr B64 a b 0 k)∧Blk wr w.heap.size 175 (QbI (EL (a+b)) (EL a) k)∧Blk wr (w.heap.size+1) 175 (EL b)∧Blk wr (w.heap.size+1+1) 175 (QCn 4 (.int .u64 0))∧Later w wr) (fun _ i _=>4-(intOf i).toNat)
 case atStart=>
  refine⟨0,by omega,rfl,by rw[QlT];rfl,?_,?_,Blk.new' _ _ (QCn 4 (Value.int .u64 0)) (by simp),((Qaa _ _).trans (Qaa _ _)).trans (Qaa _ _)⟩
  ·rw[Qbo]
   exact ((Blk.new _ _ _).later (Qaa _ _)).later (Qaa _ _)
  ·exact (Blk.new' _ _ _ (by simp)).later (Qaa _ _)
 case round=>
  obtain⟨k,hk4,rfl,rfl,h1,h2,h3,L⟩:=hrel
  by_cases hlt:k<4
  ·have hc:=Qnq Qa1 a b 0 k (by omega)
   have S0:=hid (QmO Qa1 a b 0 k)
   have S1:=hid (Qin Qa1 a b 0 k)
   have d0:=h1.cellD k (u:=n64 (lim a k)) (by rw[Qes _ _ _ _ (by omega) (QCx _) (by omega)];exact QcY a k hlt)
   have d1:=h2.cellD k (QcY b k hlt)
   generalize carr B64 a b 0 k=c at *
   go_wp2
   refine Qad [([0,1,2,3,4,5,6,7],8)] [9,10,11,12] [13,14] (by as_aux_lemma=>kernel_rfl) (by as_aux_lemma=>kernel_rfl) (by intro _ _ d _ _ h;cases d<;>exact h) ?_
   simp only[Qai,pick,QCo,QCp,QCq,QCr,QCs]
   repeat (go_big_quiet_step (fail))
   refine wpQuiet_nil ?_
   go_wp2
   try refine⟨by first|assumption|exact Qab _|exact Qaa _ _|exact Later.refl _,?_⟩
   try simp only[Qai,pick,QCo,QCp,QCq,QCr,QCs]
   repeat (go_big_quiet_step (fail))
   refine wpQuiet_nil ?_
   go_wp2_with (first
    | (refine Qac rfl rfl _ _ _ rfl _ _ _ _ h1.drew rfl ?hl rfl (by kernel_rfl) ?_;(case hl=>rw[QaA _ _ _ (by omega)];omega);intro v w2 hv hb2 ho2;simp[go_sem]at hv;subst hv))
   go_roundw
   case rel=>
    rw[QaX _ _ _ _ (by omega) (by omega) (by rw[QcY (a+b) k hlt,lim,lim,lim,←QDP (a+b),←S0.out])]at hb2
    exact⟨k+1,by omega,by go_num,by rw[←S1.out];rfl,hb2,h2.drew.only ho2 (by omega),h3.drew.only ho2 (by omega),(L.trans (Qab _)).only ho2 (QCx _)⟩
   case measure=>simp[intOf];omega
  ·obtain rfl:k=4:=by omega
   rw[Qb5 _ _ _ hlS hlA]at h1
   go_wp2_with (first
    | (refine QbP rfl _ rfl h1 rfl ?_)
    | (go_at_call 97;(with_reducible refine (Qee (a+b) hsum _).mono ?_);rintro e w2 ⟨rfl,hl2⟩
       have h32:=h3.later hl2
       have L2:=L.trans hl2)
    | (refine QaM rfl rfl _ _ rfl h32 rfl rfl rfl ?_;intro w3 hb3 ho3))
   exact bodyPost_ret (QgY rfl hb3 rfl) rfl ⟨rfl,L2.only ho3 (by omega)⟩
def mcar (B x a b k:Nat):Nat:=(x*(a%B^k)+b%B^k)/B^k
theorem Qk3 (B x a b:Nat):mcar B x a b 0=0:=by simp[mcar,Nat.mod_one]
theorem Qlq {B:Nat} (hB:0<B) (x a b k:Nat):(x*(a/B^k%B)+b/B^k%B+mcar B x a b k)/B=mcar B x a b (k+1):=by
 have hp:0<B^k:=QEl hB
 rw[mcar,mcar,Qb7,Qb7,QDv,←QDe]
 congr 1
 have e:x*(a%B^k+B^k*(a/B^k%B))+(b%B^k+B^k*(b/B^k%B))=(x*(a%B^k)+b%B^k)+B^k*(x*(a/B^k%B)+b/B^k%B):=by
  rw[QDI,QDI,QEw x]
  omega
 rw[e,QDQ _ _ hp,QEz]
theorem mdig {B:Nat} (hB:0<B) (x a b k:Nat):(x*(a/B^k%B)+b/B^k%B+mcar B x a b k)%B=(x*a+b)/B^k%B:=by
 have hp:0<B^k:=QEl hB
 have ea:=QDx a (B^k)
 have eb:=QDx b (B^k)
 have e:x*a+b=(x*(a%B^k)+b%B^k)+B^k*(x*(a/B^k)+b/B^k):=by
  have:x*a=x*(a%B^k)+B^k*(x*(a/B^k)):=by
   rw[QEw,←QDI,QEz,ea]
  rw[QDI]
  omega
 rw[e,QDQ _ _ hp,←mcar,QEz (mcar B x a b k),QED,QED (x*(a/B^k)+b/B^k),QED (x*(a/B^k%B)),Nat.mul_mod_mod,QDY,←QED (x*(a/B^k))]
theorem Qsz {B x:Nat} (hx:x<B) (a b k:Nat):mcar B x a b k≤x:=by
 have hp:0<B^k:=QEl (by omega)
 rw[mcar]
 refine Nat.le_of_lt_succ (QDm ?_)
 have h1:=QCU a hp
 have h2:=QCU b hp
 have h3:x*(a%B^k)≤x*(B^k-1):=QEa x (by omega)
 rw[Nat.mul_sub,QEi]at h3
 have h4:x≤x*B^k:=QD3 x hp
 rw[Nat.succ_eq_add_one,QDI,QEi,QDK (B^k)]
 omega
theorem Qu9 (a b:Nat) (ha:a<T256) (hb:b<T256) (S c o c2:Nat) (hS:S=38*(a*b/T256)+a*b%T256) (hc:c=S/T256) (ho:o=S%T256) (h2:c2=(o+38*c)/T256):
 c≤38∧c2≤1∧(o+38*c)%T256+38*c2<T256∧((o+38*c)%T256+38*c2)%P25=a*b%P25:=by
 have h:a*b≤(T256-1)*(T256-1):=Nat.mul_le_mul (by omega) (by omega)
 generalize a*b=X at *
 have h3:X/T256<T256:=by
  refine QDm (QDN h ?_)
  decide
 have hd:=QDx X T256
 have hm:=QCU X (show 0<T256 by decide)
 generalize X/T256=H at *
 generalize X%T256=L at *
 unfold T256 P25 at *
 omega
def WL (n:Nat):List Value:=(dig B64 8 n).map n64
theorem Qv0 (n i:Nat) (h:i<8):(WL n)[i]?=some (n64 (lim n i)):=by rw[WL,QCH,Qf1 _ _ _ _ h];rfl
theorem QwY (a b:Nat) (ha:a<B64^4) (hb:b<B64^4):(Qb2 B64 (dig B64 4 a) (dig B64 4 b) 8 4).map n64=WL (a*b):=by
 have hl:=Qce B64 (dig B64 4 a) (dig B64 4 b) 8 4
 have hlt:=Qe7 Qa1 (dig B64 4 a) (dig B64 4 b) 8 (Qeh Qa1 4 a) (Qeh Qa1 4 b) 4
 have hv:=QgU (B:=B64) (dig B64 4 a) (dig B64 4 b) 8 4 (by rw[QaT];omega) (by rw[QaT];omega)
 rw[QCE (by rw[QaT];omega),Qei,Qei,QCO ha,QCO hb]at hv
 have:=Qj8 _ hlt
 rw[hl,hv]at this
 rw[WL,this]
theorem QzU (n i:Nat):lim n (i+4)=lim (n/T256) i:=by
 rw[lim,lim,←QdL,QDe,←QDO,QEz]
theorem Qz1 (n i:Nat) (h:i<4):lim n i=lim (n%T256) i:=by
 rw[lim,lim,←QdF B64 4 n i h,←QdF B64 4 _ i h,←QdL,Qf4]
theorem Qku (l:List Nat) (i v:Nat):(l.map n64).set i (n64 v)=(l.set i v).map n64:=by rw[QEy]
theorem QrJ (l:List Nat) (i:Nat) (h:i<l.length):(l.map n64)[i]?=some (n64 (l.getD i 0)):=by
 rw[QCH,QCu,QCv h]
 rfl
theorem QrZ {n m:Nat} (h:n%T256=m%T256):EL n=EL m:=by
 rw[EL,EL,←Qf4,←Qf4 (n:=m),QdL,h]
theorem Qwl {n m:Nat} (h:n%T256=m%T256):E n=E m:=by rw[E,E,QrZ h]
theorem Qxd (x m c:Nat) (hx:x<B64) (hm:m<B64) (hc:c<B64) (w:World):
 Calls Tryz.prog 126 #[n64 x,.int .u64 38,n64 m,n64 c] w fun e w'=>e= .returned (.tuple #[n64 ((x*38+m+c)%B64),n64 ((x*38+m+c)/B64)])∧w=w':=Qn7 x 38 m c hx (by decide) hm hc w
theorem Qip (B:Nat) (xs ys:List Nat) (n i x m:Nat) (hx:xs.getD i 0=x) (hm:ys.length=m):Qb2 B xs ys n (i+1)=(Qbw B x ys (Qb2 B xs ys n i) i m).1.set (i+m) (Qbw B x ys (Qb2 B xs ys n i) i m).2:=by
 subst hx
 subst hm
 rfl
theorem QjP (B x:Nat) (ys ws:List Nat) (i j y:Nat) (hy:ys.getD j 0=y):Qbw B x ys ws i (j+1)=((Qbw B x ys ws i j).1.set (i+j) ((x*y+(Qbw B x ys ws i j).1.getD (i+j) 0+(Qbw B x ys ws i j).2)%B),
 (x*y+(Qbw B x ys ws i j).1.getD (i+j) 0+(Qbw B x ys ws i j).2)/B):=by
 subst hy
 rfl
set_option maxRecDepth 100000 in
set_option maxHeartbeats 4000000 in
theorem QdX (a b:Nat) (ha:a<T256) (hb:b<T256) (w:World):
 Calls Tryz.prog 102 #[E a,E b] w fun e w'=>e= .returned (E (a*b%P25))∧Later w w':=by
 have HP:=hid (QwY a b (by rw[QdL];exact ha) (by rw[QdL];exact hb))
 have hla:=fun i (h:i<4)=>QdF B64 4 a i h
 have hlb:=fun i (h:i<4)=>QdF B64 4 b i h
 have hal:=Qeh Qa1 4 a
 have hbl:=Qeh Qa1 4 b
 have hAl:=QaT B64 4 a
 have hBl:=QaT B64 4 b
 have ha0:Blk (((w.alloc (.cells (EL a).toArray 175)).alloc (.cells (EL b).toArray 175))) w.heap.size 175 (EL a):=(Blk.new _ _ _).later (Qaa _ _)
 have hb0:Blk (((w.alloc (.cells (EL a).toArray 175)).alloc (.cells (EL b).toArray 175))) (w.heap.size+1) 175 (EL b):=(Blk.new' _ _ _ (by simp))
 generalize hdA:dig B64 4 a=dA at *
 generalize hdB:dig B64 4 b=dB at *
 have HA:=hid hdA
 have HB:=hid hdB
 have HLA:=hid hla
 have HLB:=hid hlb
 have HAl:=hid hAl
 have HBl:=hid hBl
 clear hdA hdB hla hlb hAl hBl
 go_enter Tryz.func102,Tryz.ntmps102
 go_wp2
 go_loopw [12] (fun i wr=>∃k:Nat,k≤4∧i= .int .i64 k∧Blk wr w.heap.size 175 (EL a)∧Blk wr (w.heap.size+1) 175 (EL b)∧Blk wr (w.heap.size+1+1) 175 (QCn 4 (.int .u64 0))∧Blk wr (w.heap.size+1+1+1) 239 ((Qb2 B64 dA dB 8 k).map n64)∧Later w wr) (fun i _=>4-(intOf i).toNat)
 case atStart=>
  have L0:Later w ((w.alloc (.cells (EL a).toArray 175)).alloc (.cells (EL b).toArray 175)):=(Qaa _ _).trans (Qaa _ _)
  exact⟨0,by omega,rfl,(ha0.later (Qaa _ _)).later (Qaa _ _),(hb0.later (Qaa _ _)).later (Qaa _ _),(Blk.new' _ _ (QCn 4 (Value.int .u64 0)) (by simp)).later (Qaa _ _),Blk.new' _ _ (QCn 8 (Value.int .u64 0)) (by simp),(L0.alloc _).alloc _⟩
 case round=>
  clear ha0 hb0
  obtain⟨k,hk4,rfl,h1,h2,h3,h4,L⟩:=hrel
  by_cases hlt:k<4
  ·have hpl:=Qce B64 dA dB 8 k
   have hpt:=Qe7 Qa1 dA dB 8 hal hbl k
   have da:=h1.cellD k (QcY a k hlt)
   have HS:=hid (Qip B64 dA dB 8 k (lim a k) 4 (HLA.out k hlt) HBl.out)
   generalize Qb2 B64 dA dB 8 k=ws at *
   have HPL:=hid hpl
   clear hpl
   have hkb:decide ((k:Int)<4)=true:=by simp;omega
   go_wp2
   go_loopw [7,15] (fun c i wr=>∃j:Nat,j≤4∧i= .int .i64 j∧c=n64 (Qbw B64 (lim a k) dB ws k j).2∧Blk wr w.heap.size 175 (EL a)∧Blk wr (w.heap.size+1) 175 (EL b)∧Blk wr (w.heap.size+1+1) 175 (QCn 4 (.int .u64 0))∧Blk wr (w.heap.size+1+1+1) 239 ((Qbw B64 (lim a k) dB ws k j).1.map n64)∧Later w wr) (fun _ i _=>4-(intOf i).toNat)
   case atStart=>exact⟨0,by omega,rfl,rfl,h1,h2,h3,h4,L⟩
   case round=>
    clear h1 h2 h3 h4 L da
    obtain⟨j,hj4,rfl,rfl,h1,h2,h3,h4,L⟩:=hrel
    have hrl:=QcM B64 (lim a k) dB ws k j
    obtain⟨hrt,hct⟩:=QhS (B:=B64) (lim a k) dB ws k (QCU _ Qa1) hbl hpt j
    by_cases hlj:j<4
    ·have da:=h1.cellD k (QcY a k hlt)
     have db:=h2.cellD j (QcY b j hlj)
     have dw:=h4.cellD (k+j) (QrJ _ _ (by rw[hrl,HPL.out];omega))
     have hwl:=Qid Qa1 hrt (k+j)
     have HR:=hid (QjP B64 (lim a k) dB ws k j (lim b j) (HLB.out j hlj))
     generalize (Qbw B64 (lim a k) dB ws k j).2=c at *
     generalize (Qbw B64 (lim a k) dB ws k j).1.getD (k+j) 0=v at *
     generalize (Qbw B64 (lim a k) dB ws k j).1=vs at *
     have HRL:=hid hrl
     clear hrl
     have hkj:IntKind.i64.wrap ((k:Int)+(j:Int))=((k+j:Nat):Int):=by rw[IntKind.wrap_i64];omega
     go_wp2_with fail
     refine Qad [([0,1,2,3,4,5,6,7,8,9,10,11,12,13,14],15)] [16,17,18,19] [20,21] (by as_aux_lemma=>kernel_rfl) (by as_aux_lemma=>kernel_rfl) (by intro _ _ d _ _ h;cases d<;>exact h) ?_
     simp only[Qai,pick,QCo,QCp,QCq,QCr,QCs]
     repeat (go_big_quiet_step (fail))
     refine wpQuiet_nil ?_
     go_wp2_with fail
     (with_reducible refine (Qn7 (lim a k) (lim b j) v c (QCU _ Qa1) (QCU _ Qa1) hwl hct _).mono ?_)
     rintro e w2 ⟨rfl,rfl⟩
     go_wp2_with fail
     try refine⟨by first|assumption|exact Qab _|exact Qaa _ _|exact Later.refl _,?_⟩
     try simp only[Qai,pick,QCo,QCp,QCq,QCr,QCs]
     repeat (go_big_quiet_step (fail))
     refine wpQuiet_nil ?_
     go_wp2_with (first
      | (refine Qac rfl rfl _ _ _ rfl _ _ _ _ h4.drew rfl ?hl rfl (by kernel_rfl) ?_;(case hl=>rw[QCt,HRL.out,HPL.out];omega);intro v w2 hv hb2 ho2;simp[go_sem]at hv;subst hv)
      | fail)
     go_roundw
     case rel=>
      rw[Qku]at hb2
      exact⟨j+1,by omega,by go_num,by rw[HR.out],h1.drew.only ho2 (by omega),h2.drew.only ho2 (by omega),h3.drew.only ho2 (by omega),by rw[HR.out];exact hb2,(L.trans (Qab _)).only ho2 (by omega)⟩
     case measure=>simp[intOf];omega
    ·obtain rfl:j=4:=by omega
     generalize hc4:(Qbw B64 (lim a k) dB ws k 4).2=c at *
     generalize hv4:(Qbw B64 (lim a k) dB ws k 4).1=vs at *
     have HRL:=hid hrl
     have HC4:=hid hc4
     have HV4:=hid hv4
     clear hrl hc4 hv4
     go_wp2_with (first
      | (refine Qac rfl rfl _ _ _ rfl _ _ _ _ h4 rfl ?hl rfl (by kernel_rfl) ?_;(case hl=>rw[QCt,HRL.out,HPL.out];omega);intro v w2 hv hb2 ho2;simp[go_sem]at hv;subst hv)
      | fail)
     go_roundw
     case rel=>
      rw[Qku]at hb2
      exact⟨k+1,by omega,by go_num,h1.only ho2 (by omega),h2.only ho2 (by omega),h3.only ho2 (by omega),by rw[HS.out];exact hb2,L.only ho2 (by omega)⟩
     case measure=>simp[intOf];omega
  ·rw[show k=4 by omega,HP.out]at h4
   have hkf:decide ((k:Int)<4)=false:=by simp;omega
   have hX:a*b/T256<T256:=by
    refine QDm (QDN (Nat.mul_le_mul (Nat.le_sub_one_of_lt ha) (Nat.le_sub_one_of_lt hb)) ?_)
    decide
   obtain⟨hm1,hm2,hm3,hm4⟩:=Qu9 a b ha hb _ _ _ _ rfl rfl rfl rfl
   have hlo:=fun i h=>Qz1 (a*b) i h
   have hhi:=fun i=>QzU (a*b) i
   have hlm:=QCU (a*b) (show 0<T256 by decide)
   have HR:=hid hm4
   clear hm4
   generalize hRR:a*b%P25=R at *
   have HRR:=hid ((congrArg (· %P25) (QDK b a)).trans hRR)
   clear hRR
   generalize hXX:a*b=X at *
   clear hXX HP HA HB HLA HLB HAl HBl hal hbl ha hb
   generalize X/T256=H at *
   generalize X%T256=Lo at *
   have HLO:=hid hlo
   have HHI:=hid hhi
   clear hlo hhi
   have hSl:=Qan (38*H+Lo)
   go_wp2_with fail
   have hn0:Blk (wr.alloc (.cells (QCn 4 (Value.int .u64 0)).toArray 175)) wr.heap.size 175 (QCn 4 (.int .u64 0)):=Blk.new _ _ _
   have hsz:=h4.lt
   go_loopw [10,44] (fun c i wx=>∃k:Nat,k≤4∧i= .int .i64 k∧c=n64 (mcar B64 38 H Lo k)∧Blk wx wr.heap.size 175 (QbI (EL (38*H+Lo)) (QCn 4 (.int .u64 0)) k)∧Blk wx (w.heap.size+1+1) 175 (QCn 4 (.int .u64 0))∧Blk wx (w.heap.size+1+1+1) 239 (WL X)∧Later w wx) (fun _ i _=>4-(intOf i).toNat)
   case atStart=>exact⟨0,by omega,rfl,by rw[Qk3];rfl,by rw[Qbo];exact hn0,h3.later (Qaa _ _),h4.later (Qaa _ _),L.trans (Qaa _ _)⟩
   case round=>
    clear h1 h2 h3 h4 L hn0
    obtain⟨k,hk4,rfl,rfl,h1,h3,h4,L⟩:=hrel
    by_cases hlt:k<4
    ·have hc:=Qsz (show 38<B64 by decide) H Lo k
     have S0:=hid (mdig Qa1 38 H Lo k)
     have S1:=hid (Qlq Qa1 38 H Lo k)
     have d0:=h4.cellD k (Qv0 X k (by omega))
     have d1:=h4.cellD (k+4) (Qv0 X (k+4) (by omega))
     rw[HLO.out k hlt]at d0
     rw[HHI.out k]at d1
     generalize mcar B64 38 H Lo k=c at *
     have hkj:IntKind.i64.wrap ((k:Int)+4)=((k+4:Nat):Int):=by rw[IntKind.wrap_i64];omega
     go_wp2_with fail
     refine Qad [([0,1,2,3,4,5,6,7,8],9)] [10,11,12,13] [14,15] (by as_aux_lemma=>kernel_rfl) (by as_aux_lemma=>kernel_rfl) (by intro _ _ d _ _ h;cases d<;>exact h) ?_
     simp only[Qai,pick,QCo,QCp,QCq,QCr,QCs]
     repeat (go_big_quiet_step (fail))
     refine wpQuiet_nil ?_
     go_wp2_with fail
     (with_reducible refine (Qxd (lim H k) (lim Lo k) c (QCU _ Qa1) (QCU _ Qa1) (QDN hc (by decide)) _).mono ?_)
     rintro e w2 ⟨rfl,rfl⟩
     go_wp2_with fail
     try refine⟨by first|assumption|exact Qab _|exact Qaa _ _|exact Later.refl _,?_⟩
     try simp only[Qai,pick,QCo,QCp,QCq,QCr,QCs]
     repeat (go_big_quiet_step (fail))
     refine wpQuiet_nil ?_
     go_wp2_with (first
      | (refine Qac rfl rfl _ _ _ rfl _ _ _ _ h1.drew rfl ?hl rfl (by kernel_rfl) ?_;(case hl=>rw[QaA _ _ _ (by rw[hSl];rfl)];exact hlt);intro v w2 hv hb2 ho2;simp[go_sem]at hv;subst hv)
      | fail)
     go_roundw
     case rel=>
      have e0:=S0.out
      have e1:=S1.out
      rw[QDK 38]at e0 e1
      rw[QaX _ _ _ _ (by rw[hSl];rfl) hlt (by rw[QcY _ k hlt,lim,lim,lim,←e0])]at hb2
      exact⟨k+1,by omega,by go_num,by rw[←e1];rfl,hb2,h3.drew.only ho2 (by omega),h4.drew.only ho2 (by omega),(L.trans (Qab _)).only ho2 (by omega)⟩
     case measure=>simp[intOf];omega
    ·obtain rfl:k=4:=by omega
     have hc4:mcar B64 38 H Lo 4=(38*H+Lo)/T256:=by rw[mcar,QdL,QCO hX,QCO hlm]
     rw[Qb5 _ _ _ hSl rfl]at h1
     have HC4:=hid hc4
     clear hc4
     generalize hS:38*H+Lo=S at *
     have e2:(S%B64^4+38*(S/T256))/B64^4=(S%T256+38*(S/T256))/T256:=by rw[QdL]
     have HE:=hid e2
     clear e2
     have hp1:=Qgw S (38*(S/T256)) (by unfold B64;omega)
     rw[HE.out]at hp1
     generalize hcc:(S%T256+38*(S/T256))/T256=c2 at *
     have hp2:=Qgw (S+38*(S/T256)) (38*c2) (by unfold B64;omega)
     have hEq:E (S+38*(S/T256)+38*c2)=E ((S%T256+38*(S/T256))%T256+38*c2):=Qwl (by unfold T256;omega)
     have hn:=Qee _ hm3
     rw[HR.out]at hn
     have HQ:=hid hEq
     have HN:=hid hn
     have HP1:=hid hp1
     have HP2:=hid hp2
     clear hEq hn hp1 hp2
     generalize (S%T256+38*(S/T256))%T256+38*c2=fin at *
     generalize hcd:S/T256=c1 at *
     have hcd':n64 (mcar B64 38 H Lo 4)=n64 c1:=by rw[HC4.out]
     generalize mcar B64 38 H Lo 4=c0 at *
     obtain rfl:c0=c1:=HC4.out
     clear hcd' HC4 HE
     go_wp2_with (first
      | (refine QbP rfl _ rfl h1 rfl ?_)
      | (go_at_call 123;(with_reducible refine (HP1.out _).mono ?_);rintro e w2 ⟨rfl,hl2⟩
         have h12:=h1.later hl2
         have h32:=h3.later hl2
         have L2:=L.trans hl2
         clear HP1)
      | (refine QaM rfl rfl _ _ rfl h12 rfl rfl (Qan _) ?_;intro w3 hb3 ho3
         have h33:=h32.only ho3 (by omega)
         have L3:=L2.only ho3 (by omega)
         clear h32 h12 L2)
      | (refine QbP rfl _ rfl hb3 rfl ?_)
      | (go_at_call 123;(with_reducible refine (HP2.out _).mono ?_);rintro e w4 ⟨rfl,hl4⟩
         have h14:=hb3.later hl4
         have h34:=h33.later hl4
         have L4:=L3.trans hl4
         rw[HQ.out]
         clear HP2)
      | (refine QaM rfl rfl _ _ rfl h14 rfl rfl (Qan _) ?_;intro w5 hb5 ho5
         have h35:=h34.only ho5 (by omega)
         have L5:=L4.only ho5 (by omega)
         clear h34 h14 L4)
      | (refine QbP rfl _ rfl hb5 rfl ?_)
      | (go_at_call 97;(with_reducible refine (HN.out _).mono ?_);rintro e w6 ⟨rfl,hl6⟩
         have h36:=h35.later hl6
         have L6:=L5.trans hl6)
      | (refine QaM rfl rfl _ _ rfl h36 rfl rfl rfl ?_;intro w7 hb7 ho7)
      | fail)
     exact bodyPost_ret (QgY rfl hb7 rfl) rfl ⟨by rw[QDK a b];exact congrArg (fun t=>Ending.returned (E t)) HRR.out.symm,L6.only ho7 (by omega)⟩
theorem Qvd {n:Nat} (h:n<B64):EL n=[n64 n,.int .u64 0,.int .u64 0,.int .u64 0]:=by
 have e:∀k,0<k→n/B64^k%B64=0:=fun k hk=>QlA h k hk
 have e1:dig B64 4 n=[n/B64^0%B64,n/B64^1%B64,n/B64^2%B64,n/B64^3%B64]:=by
  rw[QfM,QfM,QfM,QfM]
  rfl
 rw[EL,e1,e 1 (by omega),e 2 (by omega),e 3 (by omega),QEE,Nat.div_one,QCO h]
 rfl
@[go_sem] theorem Qz6 (n:Nat):(n%P25<T256)=True:=eq_true (QDw (QCU _ QbC) (by decide))
@[go_sem] theorem QyE (n:Nat):(n%P25<P25)=True:=eq_true (QCU _ QbC)
def ofs (l:List Nat):List UInt64:=l.map QCN
theorem Qj6 (n:Nat):EL n=(ofs (dig B64 4 n)).map W64:=by rw[EL,ofs,List.map_map];rfl
theorem QwP {l m:List Nat} (hl:∀x∈l,x<B64) (hm:∀x∈m,x<B64) (h:ofs l=ofs m):l=m:=by
 have e:∀l:List Nat,(∀ x∈l,x<B64)→(ofs l).map UInt64.toNat=l:=by
  intro l hl
  rw[ofs,List.map_map]
  conv=>rhs;rw[←List.map_id l]
  apply List.map_congr_left
  intro x hx
  exact tn64 (hl x hx)
 rw[←e l hl,←e m hm,h]
theorem Qm2 {x y:Nat} (hx:x<T256) (hy:y<T256):(ofs (dig B64 4 x)==ofs (dig B64 4 y))=(x==y):=by
 rw[QDb,beq_iff_eq,beq_iff_eq]
 refine⟨fun h=>?_,fun h=>by rw[h]⟩
 have:=QwP (Qeh Qa1 4 x) (Qeh Qa1 4 y) h
 exact QsS (k:=4) (B:=B64) (by rw[QdL];exact hx) (by rw[QdL];exact hy) this
theorem QrU:(Tryz.prog.info? 31).map (·.size)=some 1:=by kernel_rfl
theorem QBl:Tryz.prog.eqGuardType Tryz.prog.depth 175=false:=by kernel_rfl
@[go_sem high] theorem Qy8 (op:BinOp) (x y:Operand) (xs ys:Array Value) (w:World):(eqGuard op 175 x y (.agg xs) (.agg ys)).run Tryz.prog w= .ok () w:=run_eqGuard_agg w op _ x y xs ys QBl
@[go_sem high] theorem Qzv (x y:Nat) (hx:x<T256) (hy:y<T256) (w:World):(binOp .eql 175 (E x) (E y)).run Tryz.prog w= .ok (.bool (x==y)) w:=by
  rw[run_eql_struct,Qj6,Qj6,Qbe w 0 W64 9998 175 31 4 Tryz.underlying175 QrU Tryz.underlying31 rfl (Qit _ _ Tryz.underlying31) _ _ (by rw[ofs,QCt,QaT]) (by rw[ofs,QCt,QaT]),Qm2 hx hy]
  rfl
@[go_sem high] theorem QzH (x y:Nat) (hx:x<T256) (hy:y<T256) (w:World):(binOp .neq 175 (E x) (E y)).run Tryz.prog w= .ok (.bool (x != y)) w:=by
  rw[run_neq_struct,Qj6,Qj6,Qbe w 0 W64 9998 175 31 4 Tryz.underlying175 QrU Tryz.underlying31 rfl (Qit _ _ Tryz.underlying31) _ _ (by rw[ofs,QCt,QaT]) (by rw[ofs,QCt,QaT]),Qm2 hx hy]
  rfl
theorem QBf:Tryz.prog.eqGuardType Tryz.prog.depth 174=false:=by kernel_rfl
@[go_sem high] theorem QyP (op:BinOp) (x y:Operand) (xs ys:Array Value) (w:World):(eqGuard op 174 x y (.agg xs) (.agg ys)).run Tryz.prog w= .ok () w:=run_eqGuard_agg w op _ x y xs ys QBf
@[go_sem high] theorem QzQ (x y:Nat) (hx:x<T256) (hy:y<T256) (w:World):(binOp .eql 174 (E x) (E y)).run Tryz.prog w= .ok (.bool (x==y)) w:=by
  rw[run_eql_struct,Qj6,Qj6,Qbe w 0 W64 9998 174 31 4 Tryz.underlying174 QrU Tryz.underlying31 rfl (Qit _ _ Tryz.underlying31) _ _ (by rw[ofs,QCt,QaT]) (by rw[ofs,QCt,QaT]),Qm2 hx hy]
  rfl
set_option maxHeartbeats 1000000 in
theorem Qwc (n:Nat) (hn:n<B64) (w:World):
 Calls Tryz.prog 71 #[n64 n] w fun e w'=>e= .returned (E n)∧Later w w':=by
 have hs:=hid (Qvd hn)
 go_enter Tryz.func71,Tryz.ntmps71
 go_wp2_with (first
  | (refine Qaq rfl 175 _ rfl [n64 n,.int .u64 0,.int .u64 0,.int .u64 0] ?hb ?_;(case hb=>kernel_rfl);rw[←hs.out])
  | (refine QaM rfl rfl _ _ rfl (Blk.new w _ (QCn 4 (.int .u64 0))) rfl rfl rfl ?_;intro w3 hb3 ho3))
 exact bodyPost_ret (QgY rfl hb3 rfl) rfl ⟨rfl,(Qaa _ _).only ho3 (by omega)⟩
set_option maxHeartbeats 1000000 in
theorem QgT (n:Nat) (hn:n<T256) (w:World):
 Calls Tryz.prog 100 #[E n] w fun e w'=>e= .returned (E (n*n%P25))∧Later w w':=by
 have hb:Blk ((w.alloc (.cells (EL n).toArray 175)).alloc (.cells (QCn 4 (.int .u64 0)).toArray 175)) w.heap.size 175 (EL n):=(Blk.new _ _ _).later (Qaa _ _)
 have hr:Blk ((w.alloc (.cells (EL n).toArray 175)).alloc (.cells (QCn 4 (.int .u64 0)).toArray 175)) (w.heap.size+1) 175 (QCn 4 (.int .u64 0)):=Blk.new' _ _ _ (by simp)
 go_enter Tryz.func100,Tryz.ntmps100
 go_wp2_with (first
  | (refine QbP rfl _ rfl hb rfl ?_)
  | (go_at_call 102;(with_reducible refine (QdX n n hn hn _).mono ?_);rintro e w2 ⟨rfl,hl2⟩
     have hr2:=hr.later hl2
     have L2:Later w w2:=((Qaa _ _).trans (Qaa _ _)).trans hl2)
  | (refine QaM rfl rfl _ _ rfl hr2 rfl rfl rfl ?_;intro w3 hb3 ho3)
  | fail)
 exact bodyPost_ret (QgY rfl hb3 rfl) rfl ⟨rfl,L2.only ho3 (by omega)⟩
theorem Qpj (x y b:Nat) (hx:x<B64) (hy:y<B64) (hb:b≤1) (w:World):
 (callFunc 125 #[n64 x,n64 y,n64 b]).run Tryz.prog w= .ok (.value (.tuple #[n64 ((x+B64-y-b)%B64),n64 (if x<y+b then 1 else 0)])) w:=by
 rw[QeU hx,QeU hy,QeU (show b<B64 by unfold B64;omega),run_callFunc_extern Tryz.func125 (by kernel_rfl) (by kernel_rfl) (by kernel_rfl) (e:=sub64Entry) (by kernel_rfl),run_sub64 _ _ _ hb]
 rw[QeU (QCU _ Qa1),QeU (show (if x<y+b then 1 else 0)<B64 by split<;>decide)]
 rfl
set_option maxHeartbeats 2000000 in
theorem Que (n m:Nat) (hn:n<T256) (hm:m<T256) (w:World):
 Calls Tryz.prog 99 #[E n,E m] w fun e w'=>e= .returned (E ((n+(P25-m%P25))%P25))∧Later w w':=by
 have hm1:m%P25<P25:=QCU _ QbC
 have hn1:n%P25<P25:=QCU _ QbC
 have hE:=hid (Qwl (n:=P25+B64^4-m%P25) (m:=P25-m%P25) (by rw[QdL];unfold T256 P25 at *;omega))
 have hadd:=hid (Qo4 (n%P25) (P25-m%P25) (by unfold T256 P25 at *;omega))
 have hb0:Blk ((w.alloc (.cells (EL n).toArray 175)).alloc (.cells (EL m).toArray 175)) w.heap.size 175 (EL n):=(Blk.new _ _ _).later (Qaa _ _)
 have hc0:Blk ((w.alloc (.cells (EL n).toArray 175)).alloc (.cells (EL m).toArray 175)) (w.heap.size+1) 175 (EL m):=Blk.new' _ _ _ (by simp)
 have L0:Later w ((w.alloc (.cells (EL n).toArray 175)).alloc (.cells (EL m).toArray 175)):=(Qaa _ _).trans (Qaa _ _)
 go_enter Tryz.func99,Tryz.ntmps99
 go_wp2_with (first
  | (refine Qaq rfl 175 _ rfl (EL P25) ?hb ?_;(case hb=>kernel_rfl))
  | (refine QaM (g:=w.heap.size+1+1+1) rfl rfl _ _ rfl (Blk.new' _ _ (QCn 4 (.int .u64 0)) (by simp)) rfl rfl rfl ?_;intro w3 hb3 ho3
     have hn3:Blk w3 w.heap.size 175 (EL n):=((hb0.later (Qaa _ _)).later (Qaa _ _)).only ho3 (by omega)
     have hm3:Blk w3 (w.heap.size+1) 175 (EL m):=((hc0.later (Qaa _ _)).later (Qaa _ _)).only ho3 (by omega)
     have hr3:Blk w3 (w.heap.size+1+1) 175 (QCn 4 (.int .u64 0)):=((Blk.new' _ _ (QCn 4 (Value.int .u64 0)) (by simp)).later (Qaa _ _)).only ho3 (by omega)
     have L3:Later w w3:=((L0.alloc _).alloc _).only ho3 (by omega)
     clear hb0 hc0 L0 ho3)
  | (refine QbP rfl _ rfl hm3 rfl ?_)
  | (go_at_call 97;(with_reducible refine (Qee m hm _).mono ?_);rintro e w4 ⟨rfl,hl4⟩)
  | (refine QaM rfl rfl _ _ rfl (hm3.later hl4) rfl rfl (Qan _) ?_;intro w5 hb5 ho5
     have hn5:=(hn3.later hl4).only ho5 (by omega)
     have hr5:=(hr3.later hl4).only ho5 (by omega)
     have hp5:=(hb3.later hl4).only ho5 (by omega)
     have L5:=(L3.trans hl4).only ho5 (by omega)
     clear hn3 hm3 hr3 hb3 L3 hl4 ho5)
  | fail)
 have hlS:=Qan (P25+B64^4-m%P25)
 have hlA:=Qan P25
 have hm1':m%P25<B64^4:=QDw hm1 (by decide)
 have hbl:=hb5.lt
 generalize hMM:m%P25=M at *
 have HM:=hid hMM
 clear hMM
 go_loopw [6,11] (fun c i wr=>∃k:Nat,k≤4∧i= .int .i64 k∧c=n64 (owed B64 P25 M k)∧Blk wr (w.heap.size+1+1+1) 175 (QbI (EL (P25+B64^4-M)) (EL P25) k)∧Blk wr (w.heap.size+1) 175 (EL M)∧Blk wr w.heap.size 175 (EL n)∧Blk wr (w.heap.size+1+1) 175 (QCn 4 (.int .u64 0))∧Later w wr) (fun _ i _=>4-(intOf i).toNat)
 case atStart=>exact⟨0,by omega,rfl,by rw[Qmp];rfl,by rw[Qbo];exact hp5,hb5,hn5,hr5,L5⟩
 case round=>
  clear hb5 hp5 hn5 hr5 L5
  obtain⟨k,hk4,rfl,rfl,h1,h2,h0,h3,L⟩:=hrel
  by_cases hlt:k<4
  ·have hc:=Qkv B64 P25 M k
   have S0:=hid (QoO Qa1 P25 M k 4 hlt hm1')
   have S1:=hid (Ql6 Qa1 P25 M k)
   have d0:=h1.cellD k (u:=n64 (lim P25 k)) (by rw[Qes _ _ _ _ (by omega) (QCx _) (by omega)];exact QcY P25 k hlt)
   have d1:=h2.cellD k (QcY M k hlt)
   generalize owed B64 P25 M k=c at *
   have hsub:∀w,(callFunc 125 #[n64 (lim P25 k),n64 (lim M k),n64 c]).run Tryz.prog w= .ok (.value (.tuple #[n64 ((lim P25 k+B64-lim M k-c)%B64),n64 (if lim P25 k<lim M k+c then 1 else 0)])) w:=fun w=>Qpj _ _ _ (QCU _ Qa1) (QCU _ Qa1) hc w
   obtain⟨X,hX⟩:∃X,X=(lim P25 k+B64-lim M k-c)%B64:=⟨_,rfl⟩
   obtain⟨Y,hY⟩:∃Y,Y=(if lim P25 k<lim M k+c then 1 else 0):=⟨_,rfl⟩
   rw[←hX,←hY]at hsub
   have HX:=hid hX
   have HY:=hid hY
   clear hX hY
   go_wp2_with fail
   refine Qad [([0,1,2,3,4,5,6,7],8)] [9,10,11,12] [13,14] (by as_aux_lemma=>kernel_rfl) (by as_aux_lemma=>kernel_rfl) (by intro _ _ d _ _ h;cases d<;>exact h) ?_
   simp only[Qai,pick,QCo,QCp,QCq,QCr,QCs]
   repeat (go_big_quiet_step (fail))
   refine wpQuiet_nil ?_
   go_wp2_with fail
   try refine⟨by first|assumption|exact Qab _|exact Qaa _ _|exact Later.refl _,?_⟩
   try simp only[Qai,pick,QCo,QCp,QCq,QCr,QCs]
   repeat (go_big_quiet_step (fail))
   refine wpQuiet_nil ?_
   go_wp2_with (first
    | (refine Qac rfl rfl _ _ _ rfl _ _ _ _ h1.drew rfl ?hl rfl (by kernel_rfl) ?_;(case hl=>rw[QaA _ _ _ (by omega)];omega);intro v w2 hv hb2 ho2;simp[go_sem]at hv;subst hv)
    | fail)
   go_roundw
   case rel=>
    rw[QaX _ _ _ _ (by omega) (by omega) (by rw[QcY _ k hlt,HX.out,lim,lim,lim,S0.out])]at hb2
    exact⟨k+1,by omega,by go_num,by rw[S1.out,HY.out];rfl,hb2,h2.drew.only ho2 (by omega),h0.drew.only ho2 (by omega),h3.drew.only ho2 (by omega),(L.trans (Qab _)).only ho2 (by omega)⟩
   case measure=>simp[intOf];omega
  ·rw[show k=4 by omega,Qb5 _ _ _ hlS hlA]at h1
   have h1':Blk wr (w.heap.size+1+1+1) 175 (EL (P25-M)):=by
    have e:EL (P25+B64^4-M)=EL (P25-M):=by rw[QrZ];rw[QdL];unfold T256 P25 at *;omega
    rwa [e]at h1
   have hkf:decide ((k:Int)<4)=false:=by simp;omega
   clear h1 hE
   go_wp2_with fail
   refine Qad [([0,2],1)] [] [3,4] (by as_aux_lemma=>kernel_rfl) (by as_aux_lemma=>kernel_rfl) (by intro _ _ d _ _ h;cases d<;>exact h) ?_
   simp only[Qai,pick,QCo,QCp,QCq,QCr,QCs]
   repeat (first|go_big_quiet_skip|(go_big_quiet_want;(first|refine QcJ _ rfl h0.drew rfl ?_|refine QcJ _ rfl h1'.drew rfl ?_);simp only[Act.put,QCw,QCz,QCy];go_big_quiet_on)|(go_big_quiet_step (fail)))
   refine wpQuiet_nil ?_
   go_wp2_with fail
   (with_reducible refine (Qee n hn _).mono ?_);rintro e w2 ⟨rfl,hl2⟩
   go_wp2_with fail
   try refine⟨by first|assumption|exact Qab _|exact Qaa _ _|exact Later.refl _,?_⟩
   try simp only[Qai,pick,QCo,QCp,QCq,QCr,QCs]
   repeat (go_big_quiet_step (fail))
   refine wpQuiet_nil ?_
   go_wp2_with fail
   (with_reducible refine (hadd.out _).mono ?_);rintro e w3 ⟨rfl,hl3⟩
   have h33:=((h3.drew.later hl2)).later hl3
   have L3:=((L.trans (Qab _)).trans hl2).trans hl3
   go_wp2_with (refine QaM rfl rfl _ _ rfl h33 rfl rfl rfl ?_;intro w4 hb4 ho4)
   exact bodyPost_ret (QgY rfl hb4 rfl) rfl ⟨by rw[HM.out],L3.only ho4 (by omega)⟩
def lem (n j:Nat):Nat:=n/B32^j%B32
@[go_sem] theorem QCh (n i:Nat):(lem n i<B32)=True:=eq_true (QCU _ Qbd)
@[go_sem] theorem QAe (n i:Nat):(lem n i<B64)=True:=eq_true (QDw (QCU _ Qbd) (by decide))
def NL (n:Nat):List Value:=(dig B32 8 n).map n32
abbrev NN (n:Nat):Value:=.agg (NL n).toArray
theorem QaB (n:Nat):(NL n).length=8:=by rw[NL,QCt,QaT]
theorem Qd2 (n i:Nat) (h:i<8):(NL n)[i]?=some (n32 (lem n i)):=by rw[NL,QCH,Qf1 _ _ _ _ h];rfl
@[go_sem] theorem QBU (n i:Nat) (h:i<(NL n).length):(NL n)[i]=n32 (lem n i):=by
  have:=Qd2 n i (by rw[QaB]at h;exact h)
  rw[QCv h]at this
  exact Option.some.inj this
theorem Qy2 (n:Nat):∀v∈NL n,v.oneCell'=true:=QwS _
def VL (n:Nat):List Value:=(dig B32 17 n).map n64
abbrev VV (n:Nat):Value:=.agg (VL n).toArray
theorem Qdg (n:Nat):(VL n).length=17:=by rw[VL,QCt,QaT]
theorem Qft (n i:Nat) (h:i<17):(VL n)[i]?=some (n64 (lem n i)):=by rw[VL,QCH,Qf1 _ _ _ _ h];rfl
@[go_sem] theorem QyW (n i:Nat) (h:i<(VL n).length):(VL n)[i]=n64 (lem n i):=by
  have:=Qft n i (by rw[Qdg]at h;exact h)
  rw[QCv h]at this
  exact Option.some.inj this
theorem QyO (n:Nat):∀v∈VL n,v.oneCell'=true:=Qr2 _
theorem Qez:B32^8=T256:=by decide
theorem QmR {n m:Nat} (h:n%T256=m%T256):NL n=NL m:=by
 rw[NL,NL,←Qf4,←Qf4 (n:=m),Qez,h]
theorem QkA:(Tryz.prog.info? 195).map (·.size)=some 8:=by kernel_rfl
theorem QyH:(Tryz.prog.info? 223).map (·.size)=some 17:=by kernel_rfl
section
variable {ops:Array Oper} {rest:List Oper} {o:Oper} {a:Act} {w:World} {Q:Exit→Act→World→Prop}
theorem Qa2 (hgd:Region.wanted o (yielded ops a.tmps)=true) (x:Operand) (ho:o.op= .load 195 x) {g:Nat} {t:TypeId} {n:Nat} (hb:Blk w g t (NL n)) (hx:a.eval x= .pointer (some ⟨g,0,none⟩))
 (h:wpList Tryz.prog ops Q rest (a.put o.dst (NN n)) w):wpList Tryz.prog ops Q (o :: rest) a w:=
 Qbg hgd _ x ho g t _ hb hx _ Tryz.underlying195 rfl 8 QkA (QaB n) h
theorem Qaw (hgd:o.guard=none) (hd:o.dst=none) (x y:Operand) (ho:o.op= .store 195 x y) {g:Nat} {t:TypeId} {l:List Value} {n:Nat} (hg:Blk w g t l) (hx:a.eval x= .pointer (some ⟨g,0,none⟩)) (hy:a.eval y=NN n) (hl:l.length=8)
 (h:∀w',Blk w' g t (NL n)→Only g w w'→wpList Tryz.prog ops Q rest a w'):wpList Tryz.prog ops Q (o :: rest) a w:=
 Qaf hgd hd _ x y ho g t l _ hg hx hy 8 QkA (QaB n) hl (Qy2 n) h
theorem Qkc {fn:Func} {p:Tmp} (hf:fn.results= #[.cell p 195]) {tmps:Array Value} {g:Nat} {t:TypeId} {n:Nat} (hg:Blk w g t (NL n)) (hp:tmps.getD p undef= .pointer (some ⟨g,0,none⟩)):
 (results fn tmps).run Tryz.prog w= .ok (NN n) w:=QaF hf tmps w g t _ _ hg hp Tryz.underlying195 rfl (by rw[QaB];exact QkA)
theorem QbA {K:Act→Prop} (x:Operand) (ho:o.op= .load 195 x) {w0:World} {g:Nat} {t:TypeId} {n:Nat} (hb:Blk w0 g t (NL n)) (hx:a.eval x= .pointer (some ⟨g,0,none⟩)) (h:K (a.put o.dst (NN n))):
 o.quiet Tryz.prog a (fun w'=>∃x,w'=grow w0 x) K:=
 QaN _ x ho g 0 (NL n) (fun w' hw j v hv=>by obtain⟨y,rfl⟩:=hw;rw[QCI];exact (hb.later ⟨y,rfl⟩).cellD j hv) hx _ Tryz.underlying195 rfl (by rw[QaB];exact QkA) h
theorem Qk6 (hgd:Region.wanted o (yielded ops a.tmps)=true) (x:Operand) (ho:o.op= .load 223 x) {g:Nat} {t:TypeId} {n:Nat} (hb:Blk w g t (VL n)) (hx:a.eval x= .pointer (some ⟨g,0,none⟩))
 (h:wpList Tryz.prog ops Q rest (a.put o.dst (VV n)) w):wpList Tryz.prog ops Q (o :: rest) a w:=
 Qbg hgd _ x ho g t _ hb hx _ Tryz.underlying223 rfl 17 QyH (Qdg n) h
theorem QxO (hgd:o.guard=none) (hd:o.dst=none) (x y:Operand) (ho:o.op= .store 223 x y) {g:Nat} {t:TypeId} {l:List Value} {n:Nat} (hg:Blk w g t l) (hx:a.eval x= .pointer (some ⟨g,0,none⟩)) (hy:a.eval y=VV n) (hl:l.length=17)
 (h:∀w',Blk w' g t (VL n)→Only g w w'→wpList Tryz.prog ops Q rest a w'):wpList Tryz.prog ops Q (o :: rest) a w:=
 Qaf hgd hd _ x y ho g t l _ hg hx hy 17 QyH (Qdg n) hl (QyO n) h
end
@[go_sem] theorem QBY (T:TypeId) (x:Nat) (yk:IntKind) (k:Int) (h0:0≤k):binOp .shl T (n64 x) (.int yk k)=pure (n64 (x*2^k.toNat)):=by
  rw[n64,Qkg _ _ _ _ h0,QhF]
  rw[Qi6]
  show (BitVec.toNat _)=_
  rw[QDT,QD1]
  show (QCN x).toNat*_%2^64=_
  rw[QCV,Nat.mod_mul_mod]
  rfl
set_option maxHeartbeats 1000000 in
theorem QsQ (w:World):
 Calls Tryz.prog 140 #[] w fun e w'=>e= .returned (NN P25)∧Later w w':=by
 go_enter Tryz.func140,Tryz.ntmps140
 go_wp2_with (first
  | (refine Qaq rfl 195 _ rfl (NL P25) ?hb ?_;(case hb=>kernel_rfl))
  | (refine Qaw rfl rfl _ _ rfl (Blk.new w _ (QCn 8 (.int .u32 0))) rfl rfl rfl ?_;intro w3 hb3 ho3))
 exact bodyPost_ret (Qkc rfl hb3 rfl) rfl ⟨rfl,(Qaa _ _).only ho3 (by omega)⟩
set_option maxHeartbeats 1000000 in
theorem QiQ (a b:Nat) (hb:b<T256) (w:World):
 Calls Tryz.prog 114 #[NN a,NN b] w fun e w'=>e= .returned (.tuple #[NN (a+T256-b),.bool (owed B32 a b 8==1)])∧Later w w':=by
 have hlS:=QaB (a+T256-b)
 have hlA:=QaB a
 go_enter Tryz.func114,Tryz.ntmps114
 go_wp2
 go_loopw [7,8] (fun c i wr=>∃k:Nat,k≤8∧i= .int .i64 k∧c=n64 (owed B32 a b k)∧Blk wr w.heap.size 195 (NL a)∧Blk wr (w.heap.size+1) 195 (NL b)∧Blk wr (w.heap.size+1+1) 195 (QCn 8 (.int .u32 0))∧Blk wr (w.heap.size+1+1+1) 195 (QbI (NL (a+T256-b)) (QCn 8 (.int .u32 0)) k)∧Later w wr) (fun _ i _=>8-(intOf i).toNat)
 case atStart=>exact⟨0,by omega,rfl,by rw[Qmp];rfl,(((Blk.new _ _ _).later (Qaa _ _)).later (Qaa _ _)).later (Qaa _ _),((Blk.new' _ _ (NL b) (by simp)).later (Qaa _ _)).later (Qaa _ _),(Blk.new' _ _ (QCn 8 (Value.int .u32 0)) (by simp)).later (Qaa _ _),by rw[Qbo];exact Blk.new' _ _ (QCn 8 (Value.int .u32 0)) (by simp),(((Qaa _ _).trans (Qaa _ _)).trans (Qaa _ _)).trans (Qaa _ _)⟩
 case round=>
  obtain⟨k,hk4,rfl,rfl,h1,h2,h3,h4,L⟩:=hrel
  by_cases hlt:k<8
  ·have d0:=h1.cellD k (Qd2 a _ (by omega))
   have d1:=h2.cellD k (Qd2 b _ (by omega))
   have hc:=Qkv B32 a b k
   have S0:=hid (QoO Qbd a b k 8 hlt (by rw[Qez];exact hb))
   rw[Qez]at S0
   have S1:=hid (Ql6 Qbd a b k)
   have hx:lem a k<B32:=QCU _ Qbd
   have hy:lem b k<B32:=QCU _ Qbd
   change Hid (_=if lem a k<lem b k+owed B32 a b k then 1 else 0)at S1
   change Hid ((lem a k+B32-lem b k-owed B32 a b k)%B32=lem (a+T256-b) k)at S0
   generalize owed B32 a b k=c at *
   have hyc:(lem b k+c<B64)=True:=eq_true (by unfold B64;unfold B32 at hy;omega)
   rcases QDq (lem a k) (lem b k+c) with hl|hl
   ·have hdl:decide (lem a k<lem b k+c)=true:=by simpa using hl
    have hs:∀w,(binOp .sub 31 (n64 (lem a k+4294967296)) (n64 (lem b k+c))).run Tryz.prog w= .ok (n64 (lem a k+4294967296-(lem b k+c))) w:=fun w=>by
     rw[QqA _ _ _ (by unfold B64;unfold B32 at *;omega) (by unfold B32 at *;omega)]
     rfl
    have HD:=hid (show n32 (lem a k+4294967296-(lem b k+c))=n32 (lem (a+T256-b) k) by rw[←S0.out];apply Qv6;rw[QDY];congr 1;unfold B32;omega)
    have HC:=hid (show owed B32 a b (k+1)=1 by rw[S1.out,if_pos hl])
    go_wp2_with (first
     | (refine Qac rfl rfl _ _ _ rfl _ _ _ _ h4 rfl ?hl rfl (by kernel_rfl) ?_;(case hl=>rw[QaA _ _ _ (by rw[hlS];rfl)];simp;omega);intro v w6 hv hb6 ho6;simp[go_sem]at hv;subst hv))
    go_roundw
    case rel=>
     rw[HD.out,QaX _ _ _ _ (by rw[hlS];rfl) (by simp;omega) (Qd2 _ _ (by omega))]at hb6
     exact⟨k+1,by omega,by go_num,by rw[HC.out];rfl,h1.only ho6 (by omega),h2.only ho6 (by omega),h3.only ho6 (by omega),hb6,L.only ho6 (by omega)⟩
    case measure=>simp[intOf];omega
   ·have hdl:decide (lem a k<lem b k+c)=false:=by simpa using hl
    have hs:∀w,(binOp .sub 31 (n64 (lem a k)) (n64 (lem b k+c))).run Tryz.prog w= .ok (n64 (lem a k-(lem b k+c))) w:=fun w=>by
     rw[QqA _ _ _ (by unfold B64;unfold B32 at *;omega) hl]
     rfl
    have HD:=hid (show n32 (lem a k-(lem b k+c))=n32 (lem (a+T256-b) k) by rw[←S0.out];apply Qv6;rw[QDY];unfold B32;omega)
    have HC:=hid (show owed B32 a b (k+1)=0 by rw[S1.out,if_neg (by omega)])
    go_wp2_with (first
     | (refine Qac rfl rfl _ _ _ rfl _ _ _ _ h4 rfl ?hl rfl (by kernel_rfl) ?_;(case hl=>rw[QaA _ _ _ (by rw[hlS];rfl)];simp;omega);intro v w6 hv hb6 ho6;simp[go_sem]at hv;subst hv))
    go_roundw
    case rel=>
     rw[HD.out,QaX _ _ _ _ (by rw[hlS];rfl) (by simp;omega) (Qd2 _ _ (by omega))]at hb6
     exact⟨k+1,by omega,by go_num,by rw[HC.out];rfl,h1.only ho6 (by omega),h2.only ho6 (by omega),h3.only ho6 (by omega),hb6,L.only ho6 (by omega)⟩
    case measure=>simp[intOf];omega
  ·rw[show k=8 by omega,Qb5 _ _ _ hlS rfl]at h4
   have hko:owed B32 a b k=owed B32 a b 8:=by rw[show k=8 by omega]
   have hol:=Qkv B32 a b k
   have hoB:(owed B32 a b k<B64)=True:=eq_true (QDN hol (by decide))
   have HK:=hid hko
   clear hko
   go_wp2_with (first
    | (refine Qa2 rfl _ rfl h4 rfl ?_)
    | (refine Qaw rfl rfl _ _ rfl h3 rfl rfl rfl ?_;intro w4 hb4 ho4)
    | fail)
   exact bodyPost_ret (Qae rfl _ _ _ _ _ _ hb4 rfl Tryz.underlying195 rfl (by rw[QaB];exact QkA)) rfl ⟨by rw[←HK.out];rfl,L.only ho4 (by omega)⟩
def decV:Option Value→Nat
 | some (.int _ x)=>x.toNat
 | _=>0
def lies (B k:Nat) (g:Nat) (w:World):Nat:=val B ((QC5 k).map fun i=>decV (w.cell? ⟨g,i,none⟩))
theorem QiA (B n:Nat):∀k,(QC5 k).map (fun i=>n/B^i%B)=dig B k n
 | 0=>rfl
 | k+1=>by rw[QEp,QC6,QiA B n k,QfM];rfl
theorem Qwu {w:World} {g:Nat} {t:TypeId} {n:Nat} (h:Blk w g t (NL n)) (hn:n<T256):lies B32 8 g w=n:=by
 have e:(QC5 8).map (fun i=>decV (w.cell? ⟨g,i,none⟩))=dig B32 8 n:=by
  rw[←QiA]
  apply List.map_congr_left
  intro i hi
  rw[h.cellD i (Qd2 n i (QDC.1 hi)),Qwg (n:=lem n i) (QCU _ Qbd)]
  show Int.toNat ((lem n i:Nat):Int)=_
  rw[QEx]
  rfl
 rw[lies,e,Qei,Qez,QCO hn]
theorem QvI {w:World} {g:Nat} {t:TypeId} {n:Nat} (h:Blk w g t (VL n)) (hn:n<B32^17):lies B32 17 g w=n:=by
 have e:(QC5 17).map (fun i=>decV (w.cell? ⟨g,i,none⟩))=dig B32 17 n:=by
  rw[←QiA]
  apply List.map_congr_left
  intro i hi
  rw[h.cellD i (Qft n i (QDC.1 hi)),QeU (n:=lem n i) (QDw (QCU _ Qbd) (by decide))]
  show Int.toNat ((lem n i:Nat):Int)=_
  rw[QEx]
  rfl
 rw[lies,e,Qei,QCO hn]
set_option maxRecDepth 100000 in
set_option maxHeartbeats 2000000 in
theorem Qeb (n:Nat) (hn:n<T256) (w:World):
 Calls Tryz.prog 112 #[NN n] w fun e w'=>e= .returned (NN (n%P25))∧Later w w':=by
 go_enter Tryz.func112,Tryz.ntmps112
 go_wp2
 go_loopw [] (fun wr=>∃m:Nat,m<T256∧Hid (m%P25=n%P25)∧Blk wr w.heap.size 195 (NL m)∧Blk wr (w.heap.size+1) 195 (QCn 8 (.int .u32 0))∧Later w wr) (fun wr=>lies B32 8 w.heap.size wr)
 case atStart=>exact⟨n,hn,hid rfl,(Blk.new _ _ _).later (Qaa _ _),Blk.new' _ _ (QCn 8 (Value.int .u32 0)) (by simp),(Qaa _ _).trans (Qaa _ _)⟩
 case round=>
  obtain⟨m,hm,HM,h1,h2,L⟩:=hrel
  have hmin:=fun w=>QiQ m P25 (by decide) w
  rw[Qon m P25 8 (by rw[Qez];exact hm) (by decide)]at hmin
  have HMIN:=hid hmin
  clear hmin
  go_wp2_with fail
  refine QaG [0] [([],1,1),([],1,2),([3,4,5],2,6)] [] [7,8] [6] (fun _=>(fun g=>.pointer (some ⟨g,0,none⟩),.cells (QCn 8 (Value.int .u32 0)).toArray 195)) (by as_aux_lemma=>kernel_rfl) (by as_aux_lemma=>kernel_rfl) (by intro _ _ d _ _ h;cases d<;>exact h) (by intro _ _ d _ _ h;cases d<;>exact h) ?_
  simp only[pick,QCp,QCq,QCr,QCs]
  repeat (first|go_big_quiet_skip|(go_big_quiet_want;refine QbA _ rfl h1.drew rfl ?_;simp only[Act.put,QCw,QCz,QCy];go_big_quiet_on)|(go_big_quiet_step (fail)))
  refine wpQuiet_nil ?_
  refine⟨?mk,?_⟩
  case mk=>
   refine⟨fun o ho=>?_,trivial⟩
   simp only[QCo,QCp,Option.some.injEq]at ho
   subst ho
   refine⟨rfl,fun W=>?_⟩
   unfold execOp
   simp[go_sem]
  simp only[Qbp,pick,QCo,QCp,QCq,QCr,QCs]
  refine wpQuiet_nil ?_
  intro w2 hl2
  go_wp2_with fail
  (with_reducible refine (QsQ _).mono ?_);rintro e w3 ⟨rfl,hl3⟩
  go_wp2_with fail
  try refine⟨by first|assumption|exact Qab _|exact Qaa _ _|exact Later.refl _,?_⟩
  try simp only[Qai,pick,QCo,QCp,QCq,QCr,QCs]
  repeat (go_big_quiet_step (fail))
  refine wpQuiet_nil ?_
  intro w3' hl3'
  go_wp2_with fail
  (with_reducible refine (HMIN.out _).mono ?_);rintro e w4 ⟨rfl,hl4⟩
  obtain⟨X,hX⟩:∃X:Bool,X=((if m<P25 then 1 else 0)==1):=⟨_,rfl⟩
  rw[←hX]
  have HX:=hid hX
  clear hX
  go_wp2_with fail
  try refine⟨by first|assumption|exact Qab _|exact Qaa _ _|exact Later.refl _,?_⟩
  try simp only[Qai,pick,QCo,QCp,QCq,QCr,QCs]
  repeat (go_big_quiet_step (fail))
  refine wpQuiet_nil ?_
  intro w6 g6 hl6 hg6 _ hb6
  refine wpQuiet_nil ?_
  intro w7 hl7
  have Lr:Later wr w7:=(((((Qab _).trans hl2).trans hl3).trans hl3').trans hl4).trans (hl6.trans hl7)
  have hB:Blk w7 g6 195 (QCn 8 (Value.int .u32 0)):=Blk.later hb6 hl7
  have hA:=h1.later Lr
  have hR:=h2.later Lr
  have L7:=L.trans Lr
  have hlt1:=h1.lt
  have hlt2:=h2.lt
  have hgg:=h1.lt
  clear h2 hl2 hl3 hl3' hl4 hl6 hl7 hb6 Lr
  rcases QDq m P25 with hmp|hmp
  ·obtain rfl:X=true:=by rw[HX.out,if_pos hmp];rfl
   have hmn:=HM.out
   rw[QCO hmp]at hmn
   have HN:=hid hmn
   clear hmn
   go_wp2_with (first
    | (refine Qaw rfl rfl _ _ rfl hB rfl rfl rfl ?_;intro w8 hb8 ho8
       have hA8:=hA.only ho8 (by omega)
       have hR8:=hR.only ho8 (by omega)
       have L8:=L7.only ho8 (by omega))
    | (refine Qa2 rfl _ rfl hA8 rfl ?_)
    | (refine Qaw rfl rfl _ _ rfl hR8 rfl rfl rfl ?_;intro w9 hb9 ho9)
    | fail)
   exact bodyPost_ret (Qkc rfl hb9 rfl) rfl ⟨by rw[←HN.out],L8.only ho9 (by omega)⟩
  ·obtain rfl:X=false:=by rw[HX.out,if_neg (by omega)];rfl
   have hs1:NL (m+T256-P25)=NL (m-P25):=QmR (by unfold T256 P25 at *;omega)
   have HS:=hid hs1
   clear hs1
   go_wp2_with (first
    | (refine Qaw rfl rfl _ _ rfl hB rfl rfl rfl ?_;intro w8 hb8 ho8
       have hA8:=hA.only ho8 (by omega)
       have hR8:=hR.only ho8 (by omega)
       have L8:=L7.only ho8 (by omega))
    | (refine Qa2 rfl _ rfl hb8 rfl ?_)
    | (refine Qaw rfl rfl _ _ rfl hA8 rfl rfl (QaB _) ?_;intro w9 hb9 ho9)
    | fail)
   go_roundw
   case rel=>
    rw[HS.out]at hb9
    exact⟨_,_,_,_,_,_,_,_,_,_,_,⟨m-P25,by omega,hid (by rw[←HM.out];exact (Nat.mod_eq_sub_mod hmp).symm),hb9,hR8.only ho9 (by omega),L8.only ho9 (by omega)⟩,rfl⟩
   case measure=>
    rw[HS.out]at hb9
    have e1:=Qwu hb9 (by omega)
    have e2:=Qwu h1 hm
    have:=QbC
    omega
theorem QiI {B:Nat} (x:Nat):∀k,(∀ j,j<k→x/B^j%B=0)→x%B^k=0
 | 0,_=>by simp[Nat.mod_one]
 | k+1,h=>by rw[Qb7,QiI x k (fun j hj=>h j (by omega)),h k (by omega),Nat.mul_zero]
theorem Qvy (n j:Nat):lem n (8+j)=lem (n/T256) j:=by rw[lem,lem,←Qez,QDe,←QDO]
theorem QzD (n j:Nat) (h:j<8):lem n j=lem (n%T256) j:=by
 rw[lem,lem,←QdF B32 8 n j h,←QdF B32 8 _ j h,←Qez,Qf4]
theorem QxA (n:Nat) (hn:n<B32^17) (h:∀j,8≤j→j<17→lem n j=0):n<T256:=by
 have h9:n/T256<B32^9:=QDm (by rw[←Qez,←QDO];exact hn)
 have:=QiI (B:=B32) (n/T256) 9 (fun j hj=>by have:=h (8+j) (by omega) (by omega);rw[Qvy]at this;exact this)
 rw[QCO h9]at this
 have hd:=QDx n T256
 rw[this,Nat.mul_zero,QCI]at hd
 rw[←hd]
 exact QCU _ (by decide)
theorem Quz (n j:Nat) (h8:8≤j) (h:lem n j≠0): ¬n<T256:=by
 intro hn
 refine h ?_
 rw[lem,QDd,Nat.zero_mod]
 exact QCM hn (by rw[←Qez];exact QDh (by decide) h8)
theorem Qox {b c:Bool} (h:b=c):Ending.returned (.bool b)= .returned (.bool c):=by rw[h]
set_option maxHeartbeats 1000000 in
theorem Qt0 (n:Nat) (hn:n<B32^17) (w:World):
 Calls Tryz.prog 141 #[VV n] w fun e w'=>e= .returned (.bool (!decide (n<T256)))∧Later w w':=by
 have HNo:=hid (QxA n hn)
 have HYes:=hid (Quz n)
 clear hn
 go_enter Tryz.func141,Tryz.ntmps141
 go_wp2
 go_loopw [3] (fun i wr=>∃k:Nat,8≤k∧k≤17∧i= .int .i64 k∧Hid (∀ j,8≤j→j<k→lem n j=0)∧Blk wr w.heap.size 223 (VL n)∧Later w wr) (fun i _=>17-(intOf i).toNat)
 case atStart=>exact⟨8,by omega,by omega,rfl,hid (fun j h1 h2=>by omega),Blk.new _ _ _,Qaa _ _⟩
 case round=>
  obtain⟨k,hk8,hk,rfl,HZ,h1,L⟩:=hrel
  by_cases hlt:k<17
  ·have d0:=h1.cellD k (Qft n k hlt)
   by_cases hz:lem n k=0
   ·have hd:decide (0<lem n k)=false:=by simp[hz]
    have HZ':=hid hz
    clear hz
    go_wp2
    go_roundw
    case rel=>
     refine⟨k+1,by omega,by omega,by go_num,hid (fun j h1 h2=>?_),h1,L⟩
     by_cases hj:j=k
     ·rw[hj];exact HZ'.out
     ·exact HZ.out j h1 (by omega)
    case measure=>simp[intOf];omega
   ·have hd:decide (0<lem n k)=true:=by simp;omega
    have HR:=hid (HYes.out k hk8 hz)
    clear hz
    go_wp2
    go_ret
    exact⟨Qox (by simp only[HR.out,decide_false,Bool.not_false]),L⟩
  ·have HR:=hid (HNo.out (fun j h8 hj=>HZ.out j h8 (by omega)))
   go_wp2
   go_ret
   exact⟨Qox (by simp only[HR.out,decide_true,Bool.not_true]),L⟩
theorem QqU (S:Nat) (hS:S<B32^10):QbI (VL S) (QCn 17 (.int .u64 0)) 10=VL S:=by
 have hl:=Qdg S
 apply QEt (by rw[QaA _ _ _ (by rw[hl];rfl),hl];rfl)
 intro i h1 h2
 rw[hl]at h2
 by_cases hi:i<10
 ·have e:(QbI (VL S) (QCn 17 (.int .u64 0)) 10)[i]?=(VL S)[i]?:=by
   rw[QbI,QCD (by rw[QCP,hl];omega),QDt,if_pos hi]
  rw[QCv h1,QCv (by rw[hl];exact h2)]at e
  exact Option.some.inj e
 ·have e:=Qes (VL S) (QCn 17 (.int .u64 0)) 10 i (by rw[hl];rfl) (by omega) (by simpa using h2)
  rw[QCv h1,QD4,if_pos h2]at e
  rw[Option.some.inj e,QyW,lem,QDd,Nat.zero_mod]
  ·rfl
  ·exact QCM hS (QDh (by decide) (by omega))
theorem QtE (m:Nat) (h:T256≤m):38*(m/T256)+m%T256<m∧(38*(m/T256)+m%T256)%P25=m%P25:=by
 unfold T256 P25 at *
 omega
set_option maxRecDepth 100000 in
set_option maxHeartbeats 2000000 in
theorem QjQ (n:Nat) (hn:n<B32^17) (w:World):
 Calls Tryz.prog 113 #[VV n] w fun e w'=>e= .returned (NN (n%P25))∧Later w w':=by
 go_enter Tryz.func113,Tryz.ntmps113
 go_wp2
 go_loopw [] (fun wr=>∃m:Nat,m<B32^17∧Hid (m%P25=n%P25)∧Blk wr w.heap.size 223 (VL m)∧Blk wr (w.heap.size+1) 195 (QCn 8 (.int .u32 0))∧Later w wr) (fun wr=>lies B32 17 w.heap.size wr)
 case atStart=>exact⟨n,hn,hid rfl,(Blk.new _ _ _).later (Qaa _ _),Blk.new' _ _ (QCn 8 (Value.int .u32 0)) (by simp),(Qaa _ _).trans (Qaa _ _)⟩
 case round=>
  obtain⟨m,hm,HM,h1,h2,L⟩:=hrel
  have hhi:=hid (Qt0 m hm)
  rcases QDq m T256 with hlt|hge
  ·have hb:(!decide (m<T256))=false:=by simpa using hlt
   rw[hb]at hhi
   clear hb
   go_wp2_with (first
    | (refine Qk6 rfl _ rfl h1 rfl ?_)
    | (go_at_call 141;(with_reducible refine (hhi.out _).mono ?_);rintro e w2 ⟨rfl,hl2⟩
       have h12:=h1.later hl2
       have h22:=h2.later hl2
       have L2:=L.trans hl2
       clear hhi)
    | fail)
   have hlS:=QaB m
   have hlz:=h12.lt
   have hlz2:=h22.lt
   go_loopw [7] (fun i wx=>∃k:Nat,k≤8∧i= .int .i64 k∧Blk wx w.heap.size 223 (VL m)∧Blk wx (w.heap.size+1) 195 (QCn 8 (.int .u32 0))∧Blk wx w2.heap.size 195 (QbI (NL m) (QCn 8 (.int .u32 0)) k)∧Later w wx) (fun i _=>8-(intOf i).toNat)
   case atStart=>exact⟨0,by omega,rfl,h12.later (Qaa _ _),h22.later (Qaa _ _),by rw[Qbo];exact Blk.new _ _ (QCn 8 (Value.int .u32 0)),L2.trans (Qaa _ _)⟩
   case round=>
    clear h12 h22 L2
    obtain⟨k,hk,rfl,h3,h4,h5,L3⟩:=hrel
    by_cases hk8:k<8
    ·have d0:=h3.cellD k (Qft m k (by omega))
     go_wp2_with (first
      | (refine Qac rfl rfl _ _ _ rfl _ _ _ _ h5 rfl ?hl rfl (by kernel_rfl) ?_;(case hl=>rw[QaA _ _ _ (by rw[hlS];rfl)];simp;omega);intro v w6 hv hb6 ho6;simp[go_sem]at hv;subst hv))
     go_roundw
     case rel=>
      rw[QaX _ _ _ _ (by rw[hlS];rfl) (by simp;omega) (Qd2 _ _ (by omega))]at hb6
      exact⟨k+1,by omega,by go_num,h3.only ho6 (by omega),h4.only ho6 (by omega),hb6,L3.only ho6 (by have:=L.size;omega)⟩
     case measure=>simp[intOf];omega
    ·rw[show k=8 by omega,Qb5 _ _ _ hlS rfl]at h5
     have hkf:decide ((k:Int)<8)=false:=by simp;omega
     go_wp2_with (first
      | (refine Qa2 rfl _ rfl h5 rfl ?_)
      | (go_at_call 112;(with_reducible refine (Qeb m hlt _).mono ?_);rintro e w7 ⟨rfl,hl7⟩)
      | (refine Qaw rfl rfl _ _ rfl (h4.later hl7) rfl rfl rfl ?_;intro w9 hb9 ho9)
      | fail)
     exact bodyPost_ret (Qkc rfl hb9 rfl) rfl ⟨by rw[HM.out],(L3.trans hl7).only ho9 (by omega)⟩
  ·have hb:(!decide (m<T256))=true:=by simpa using hge
   rw[hb]at hhi
   clear hb
   obtain⟨hf1,hf2⟩:=QtE m hge
   have hh9:m/T256<B32^9:=QDm (by rw[←Qez,←QDO];exact hm)
   have hhl:=fun j=>Qvy m j
   have hll:=fun j h=>QzD m j h
   have hlm:=QCU m (show 0<T256 by decide)
   have hS10:38*(m/T256)+m%T256<B32^10:=by
    have e1:B32^10=4294967296*(4294967296*T256):=by decide
    have e2:B32^9=4294967296*T256:=by decide
    rw[e2]at hh9
    rw[e1]
    omega
   have hd10:(38*(m/T256)+m%T256)/B32^9<B32:=QDm (by rw[←QDv];exact hS10)
   have hdd:lem (38*(m/T256)+m%T256) 9=(38*(m/T256)+m%T256)/B32^9:=QCO hd10
   have hmE:mcar B32 38 (m/T256) (m%T256) 9=(38*(m/T256)+m%T256)/B32^9:=by
    rw[mcar,QCO hh9,QCO (QDw hlm (by decide))]
   rw[←hmE]at hdd
   have HDD:=hid hdd
   have HF2:=hid (hf2.trans HM.out)
   have HF1:=hid hf1
   have HVF:=hid (QqU _ hS10)
   have HHL:=hid hhl
   have HLL:=hid hll
   have HS17:=hid (QCM hS10 (show B32^10≤B32^17 from QDh (by decide) (by omega)))
   have hz8:lem (m%T256) 8=0:=by rw[lem,QDd (by rw[Qez];exact hlm),Nat.zero_mod]
   have HZ8:=hid hz8
   clear hdd hmE hd10 hf1 hf2 hhl hll hS10 hz8 hh9 hlm
   generalize m/T256=H at *
   generalize m%T256=Lo at *
   have hlS:=Qdg (38*H+Lo)
   go_wp2_with (first
    | (refine Qk6 rfl _ rfl h1 rfl ?_)
    | (go_at_call 141;(with_reducible refine (hhi.out _).mono ?_);rintro e w2 ⟨rfl,hl2⟩
       have h12:=(h1.later hl2).later (Qaa _ (.cells (QCn 17 (.int .u64 0)).toArray 223))
       have h22:=(h2.later hl2).later (Qaa _ (.cells (QCn 17 (.int .u64 0)).toArray 223))
       have L2:=(L.trans hl2).trans (Qaa _ (.cells (QCn 17 (.int .u64 0)).toArray 223))
       have hz1:=(h1.later hl2).lt
       have hz2:=(h2.later hl2).lt
       clear hhi)
    | fail)
   go_loopw [4,5] (fun c i wx=>∃k:Nat,k≤9∧i= .int .i64 k∧c=n64 (mcar B32 38 H Lo k)∧Blk wx w.heap.size 223 (VL m)∧Blk wx (w.heap.size+1) 195 (QCn 8 (.int .u32 0))∧Blk wx w2.heap.size 223 (QbI (VL (38*H+Lo)) (QCn 17 (.int .u64 0)) k)∧Later w wx) (fun _ i _=>9-(intOf i).toNat)
   case atStart=>exact⟨0,by omega,rfl,by rw[Qk3];rfl,h12,h22,by rw[Qbo];exact Blk.new _ _ (QCn 17 (Value.int .u64 0)),L2⟩
   case round=>
    clear h12 h22 L2
    obtain⟨k,hk,rfl,rfl,h3,h4,h5,L3⟩:=hrel
    by_cases hk9:k<9
    ·have hc:=Qsz (show 38<B32 by decide) H Lo k
     have S0:=hid (mdig Qbd 38 H Lo k)
     have S1:=hid (Qlq Qbd 38 H Lo k)
     have d1:=h3.cellD (k+8) (Qft m (k+8) (by omega))
     rw[QEz k 8,HHL.out k,QEz 8 k]at d1
     have hlH:lem H k<B32:=QCU _ Qbd
     have hlL:lem Lo k<B32:=QCU _ Qbd
     change Hid ((38*lem H k+lem Lo k+mcar B32 38 H Lo k)%B32=lem (38*H+Lo) k)at S0
     change Hid ((38*lem H k+lem Lo k+mcar B32 38 H Lo k)/B32=_)at S1
     by_cases hk8:k<8
     ·have d0:=h3.cellD k (Qft m k (by omega))
      rw[HLL.out k hk8]at d0
      generalize mcar B32 38 H Lo k=c at *
      have hsm:(c+lem Lo k+38*lem H k<B64)=True:=eq_true (by unfold B64;unfold B32 at *;omega)
      have E0:=hid (show (c+lem Lo k+38*lem H k)%4294967296=lem (38*H+Lo) k by rw[←S0.out];unfold B32;congr 1;omega)
      have E1:=hid (show (c+lem Lo k+38*lem H k)/4294967296=mcar B32 38 H Lo (k+1) by rw[←S1.out];unfold B32;congr 1;omega)
      go_wp2_with (first
       | (refine Qac rfl rfl _ _ _ rfl _ _ _ _ h5 rfl ?hl rfl (by kernel_rfl) ?_;(case hl=>rw[QaA _ _ _ (by rw[hlS];rfl)];simp;omega);intro v w6 hv hb6 ho6;simp[go_sem]at hv;subst hv))
      go_roundw
      case rel=>
       rw[E0.out,QaX _ _ _ _ (by rw[hlS];rfl) (by simp;omega) (Qft _ _ (by omega))]at hb6
       exact⟨k+1,by omega,by go_num,by rw[E1.out],h3.only ho6 (by omega),h4.only ho6 (by omega),hb6,L3.only ho6 (by have:=L.size;omega)⟩
      case measure=>simp[intOf];omega
     ·have hk8e:lem Lo k=0:=by rw[show k=8 by omega];exact HZ8.out
      have HKE:=hid hk8e
      clear hk8e
      generalize mcar B32 38 H Lo k=c at *
      have hsm:(c+38*lem H k<B64)=True:=eq_true (by unfold B64;unfold B32 at *;omega)
      have E0:=hid (show (c+38*lem H k)%4294967296=lem (38*H+Lo) k by rw[←S0.out,HKE.out];unfold B32;congr 1;omega)
      have E1:=hid (show (c+38*lem H k)/4294967296=mcar B32 38 H Lo (k+1) by rw[←S1.out,HKE.out];unfold B32;congr 1;omega)
      go_wp2_with (first
       | (refine Qac rfl rfl _ _ _ rfl _ _ _ _ h5 rfl ?hl rfl (by kernel_rfl) ?_;(case hl=>rw[QaA _ _ _ (by rw[hlS];rfl)];simp;omega);intro v w6 hv hb6 ho6;simp[go_sem]at hv;subst hv))
      go_roundw
      case rel=>
       rw[E0.out,QaX _ _ _ _ (by rw[hlS];rfl) (by simp;omega) (Qft _ _ (by omega))]at hb6
       exact⟨k+1,by omega,by go_num,by rw[E1.out],h3.only ho6 (by omega),h4.only ho6 (by omega),hb6,L3.only ho6 (by have:=L.size;omega)⟩
      case measure=>simp[intOf];omega
    ·rw[show k=9 by omega]at h5
     have hkf:decide ((k:Int)<9)=false:=by simp;omega
     have HC9:=hid (show n64 (mcar B32 38 H Lo k)=n64 (lem (38*H+Lo) 9) by rw[show k=9 by omega,HDD.out])
     go_wp2_with (first
      | (refine Qac rfl rfl _ _ _ rfl _ _ _ _ h5 rfl ?hl rfl (by kernel_rfl) ?_;(case hl=>rw[QaA _ _ _ (by rw[hlS];rfl)];simp);intro v w6 hv hb6 ho6;simp[go_sem]at hv;subst hv
         rw[HC9.out,QaX _ _ _ _ (by rw[hlS];rfl) (by simp) (Qft _ 9 (by omega)),HVF.out]at hb6
         have h36:=h3.only ho6 (by omega))
      | (refine Qk6 rfl _ rfl hb6 rfl ?_)
      | (refine QxO rfl rfl _ _ rfl h36 rfl rfl (Qdg _) ?_;intro w7 hb7 ho7)
      | fail)
     go_roundw
     case rel=>
      repeat apply Exists.intro
      exact⟨⟨38*H+Lo,HS17.out,hid HF2.out,hb7,(h4.only ho6 (by omega)).only ho7 (by omega),(L3.only ho6 (by have:=L.size;omega)).only ho7 (by omega)⟩,rfl⟩
     case measure=>
      have e1:=QvI hb7 HS17.out
      have e2:=QvI h1 hm
      have:=HF1.out
      omega
theorem QpC (S k:Nat) (hk:k≤17) (hS:S<B32^k):QbI (VL S) (QCn 17 (.int .u64 0)) k=VL S:=by
 have hl:=Qdg S
 apply QEt (by rw[QaA _ _ _ (by rw[hl];rfl),hl];rfl)
 intro i h1 h2
 rw[hl]at h2
 by_cases hi:i<k
 ·have e:(QbI (VL S) (QCn 17 (.int .u64 0)) k)[i]?=(VL S)[i]?:=by
   rw[QbI,QCD (by rw[QCP,hl];omega),QDt,if_pos hi]
  rw[QCv h1,QCv (by rw[hl];exact h2)]at e
  exact Option.some.inj e
 ·have e:=Qes (VL S) (QCn 17 (.int .u64 0)) k i (by rw[hl];rfl) (by omega) (by simpa using h2)
  rw[QCv h1,QD4,if_pos h2]at e
  rw[Option.some.inj e,QyW,lem,QDd,Nat.zero_mod]
  ·rfl
  ·exact QCM hS (QDh (by decide) (by omega))
set_option maxRecDepth 100000 in
set_option maxHeartbeats 2000000 in
theorem Qw2 (a b:Nat) (ha:a<T256) (hb:b<T256) (w:World):
 Calls Tryz.prog 85 #[NN a,NN b] w fun e w'=>e= .returned (NN ((a+b)%P25))∧Later w w':=by
 have hS9:a+b<B32^9:=by
  have:B32^9=4294967296*T256:=by decide
  rw[this]
  omega
 have HVF:=hid (QpC (a+b) 9 (by omega) hS9)
 have hlS:=Qdg (a+b)
 have h8:carr B32 a b 0 8=lem (a+b) 8:=by
  rw[QuG _ _ _ _ (by rw[Qez];exact ha) (by rw[Qez];exact hb),lem,QCO,QDP]
  exact QDm (by rw[←QDv];exact hS9)
 have HC8:=hid h8
 have HF:=hid (QjQ (a+b) (QCM hS9 (QDh (by decide) (by omega))))
 clear h8 hS9
 go_enter Tryz.func85,Tryz.ntmps85
 go_wp2
 go_loopw [6,7] (fun c i wr=>∃k:Nat,k≤8∧i= .int .i64 k∧c=n64 (carr B32 a b 0 k)∧Blk wr w.heap.size 195 (NL a)∧Blk wr (w.heap.size+1) 195 (NL b)∧Blk wr (w.heap.size+1+1) 195 (QCn 8 (.int .u32 0))∧Blk wr (w.heap.size+1+1+1) 223 (QbI (VL (a+b)) (QCn 17 (.int .u64 0)) k)∧Later w wr) (fun _ i _=>8-(intOf i).toNat)
 case atStart=>exact⟨0,by omega,rfl,by rw[QlT];rfl,(((Blk.new _ _ _).later (Qaa _ _)).later (Qaa _ _)).later (Qaa _ _),((Blk.new' _ _ (NL b) (by simp)).later (Qaa _ _)).later (Qaa _ _),(Blk.new' _ _ (QCn 8 (Value.int .u32 0)) (by simp)).later (Qaa _ _),by rw[Qbo];exact Blk.new' _ _ (QCn 17 (Value.int .u64 0)) (by simp),(((Qaa _ _).trans (Qaa _ _)).trans (Qaa _ _)).trans (Qaa _ _)⟩
 case round=>
  obtain⟨k,hk4,rfl,rfl,h1,h2,h3,h4,L⟩:=hrel
  by_cases hlt:k<8
  ·have d0:=h1.cellD k (Qd2 a _ (by omega))
   have d1:=h2.cellD k (Qd2 b _ (by omega))
   have hc:=Qnq Qbd a b 0 k (by omega)
   have S0:=hid (QmO Qbd a b 0 k)
   have S1:=hid (Qin Qbd a b 0 k)
   have hx:lem a k<B32:=QCU _ Qbd
   have hy:lem b k<B32:=QCU _ Qbd
   change Hid ((lem a k+lem b k+carr B32 a b 0 k)%B32=lem (a+b) k)at S0
   change Hid ((lem a k+lem b k+carr B32 a b 0 k)/B32=carr B32 a b 0 (k+1))at S1
   generalize carr B32 a b 0 k=c at *
   have hsm:(c+lem a k+lem b k<B64)=True:=eq_true (by unfold B64;unfold B32 at *;omega)
   have E0:=hid (show (c+lem a k+lem b k)%4294967296=lem (a+b) k by rw[←S0.out];unfold B32;congr 1;omega)
   have E1:=hid (show (c+lem a k+lem b k)/4294967296=carr B32 a b 0 (k+1) by rw[←S1.out];unfold B32;congr 1;omega)
   go_wp2_with fail
   refine Qad [] [0,1,2,3,4,5,6,7,8,9,10,11] [] (by as_aux_lemma=>kernel_rfl) (by as_aux_lemma=>kernel_rfl) (by intro _ _ d _ _ h;cases d<;>exact h) ?_
   simp only[Qai,pick,QCo,QCp,QCq,QCr,QCs]
   repeat (go_big_quiet_step (fail))
   refine wpQuiet_nil ?_
   go_wp2_with (first
    | (refine Qac rfl rfl _ _ _ rfl _ _ _ _ h4.drew rfl ?hl rfl (by kernel_rfl) ?_;(case hl=>rw[QaA _ _ _ (by rw[hlS];rfl)];simp;omega);intro v w6 hv hb6 ho6;simp[go_sem]at hv;subst hv)
    | fail)
   go_roundw
   case rel=>
    rw[E0.out,QaX _ _ _ _ (by rw[hlS];rfl) (by simp;omega) (Qft _ _ (by omega))]at hb6
    exact⟨k+1,by omega,by go_num,by rw[E1.out],h1.drew.only ho6 (by omega),h2.drew.only ho6 (by omega),h3.drew.only ho6 (by omega),hb6,(L.trans (Qab _)).only ho6 (by omega)⟩
   case measure=>simp[intOf];omega
  ·rw[show k=8 by omega]at h4
   have hkf:decide ((k:Int)<8)=false:=by simp;omega
   have HC9:=hid (show n64 (carr B32 a b 0 k)=n64 (lem (a+b) 8) by rw[show k=8 by omega,HC8.out])
   go_wp2_with (first
    | (refine Qac rfl rfl _ _ _ rfl _ _ _ _ h4 rfl ?hl rfl (by kernel_rfl) ?_;(case hl=>rw[QaA _ _ _ (by rw[hlS];rfl)];simp);intro v w6 hv hb6 ho6;simp[go_sem]at hv;subst hv
       rw[HC9.out,QaX _ _ _ _ (by rw[hlS];rfl) (by simp) (Qft _ 8 (by omega)),HVF.out]at hb6
       have h36:=h3.only ho6 (by omega)
       have L6:=L.only ho6 (by omega))
    | (refine Qk6 rfl _ rfl hb6 rfl ?_)
    | (go_at_call 113;(with_reducible refine (HF.out _).mono ?_);rintro e w7 ⟨rfl,hl7⟩)
    | (refine Qaw rfl rfl _ _ rfl (h36.later hl7) rfl rfl rfl ?_;intro w9 hb9 ho9)
    | fail)
   exact bodyPost_ret (Qkc rfl hb9 rfl) rfl ⟨rfl,(L6.trans hl7).only ho9 (by omega)⟩
theorem Qvk {B:Nat} (hB:0<B) (a b k n:Nat) (ha:a<B^k) (hb:b<B^k) (hn:k+k≤n):Qb2 B (dig B k a) (dig B k b) n k=dig B n (a*b):=by
 have hl:=Qce B (dig B k a) (dig B k b) n k
 have hlt:=Qe7 hB (dig B k a) (dig B k b) n (Qeh hB k a) (Qeh hB k b) k
 have hv:=QgU (B:=B) (dig B k a) (dig B k b) n k (by rw[QaT];omega) (by rw[QaT];omega)
 rw[QCE (by rw[QaT];omega),Qei,Qei,QCO ha,QCO hb]at hv
 have:=Qj8 _ hlt
 rw[hl,hv]at this
 exact this.symm
set_option maxRecDepth 100000 in
set_option maxHeartbeats 4000000 in
theorem Qky (a b:Nat) (ha:a<T256) (hb:b<T256) (w:World):
 Calls Tryz.prog 87 #[NN a,NN b] w fun e w'=>e= .returned (NN (a*b%P25))∧Later w w':=by
 have hab:a*b<B32^17:=by
  have h1:a*b≤(T256-1)*(T256-1):=Nat.mul_le_mul (by omega) (by omega)
  exact QDN h1 (by decide)
 have HF:=hid (QjQ (a*b) hab)
 have HP:=hid (show (Qb2 B32 (dig B32 8 a) (dig B32 8 b) 17 8).map n64=VL (a*b) by rw[Qvk Qbd a b 8 17 (by rw[Qez];exact ha) (by rw[Qez];exact hb) (by omega)];rfl)
 clear hab
 have hla:=fun i (h:i<8)=>QdF B32 8 a i h
 have hlb:=fun i (h:i<8)=>QdF B32 8 b i h
 have hal:=Qeh Qbd 8 a
 have hbl:=Qeh Qbd 8 b
 have hBl:=QaT B32 8 b
 generalize hdA:dig B32 8 a=dA at *
 generalize hdB:dig B32 8 b=dB at *
 have HLA:=hid hla
 have HLB:=hid hlb
 have HBl:=hid hBl
 clear hdA hdB hla hlb hBl
 go_enter Tryz.func87,Tryz.ntmps87
 go_wp2
 go_loopw [6] (fun i wr=>∃k:Nat,k≤8∧i= .int .i64 k∧Blk wr w.heap.size 195 (NL a)∧Blk wr (w.heap.size+1) 195 (NL b)∧Blk wr (w.heap.size+1+1) 195 (QCn 8 (.int .u32 0))∧Blk wr (w.heap.size+1+1+1) 223 ((Qb2 B32 dA dB 17 k).map n64)∧Later w wr) (fun i _=>8-(intOf i).toNat)
 case atStart=>exact⟨0,by omega,rfl,(((Blk.new _ _ _).later (Qaa _ _)).later (Qaa _ _)).later (Qaa _ _),((Blk.new' _ _ (NL b) (by simp)).later (Qaa _ _)).later (Qaa _ _),(Blk.new' _ _ (QCn 8 (Value.int .u32 0)) (by simp)).later (Qaa _ _),Blk.new' _ _ (QCn 17 (Value.int .u64 0)) (by simp),(((Qaa _ _).trans (Qaa _ _)).trans (Qaa _ _)).trans (Qaa _ _)⟩
 case round=>
  obtain⟨k,hk4,rfl,h1,h2,h3,h4,L⟩:=hrel
  by_cases hlt:k<8
  ·have hpl:=Qce B32 dA dB 17 k
   have hpt:=Qe7 Qbd dA dB 17 hal hbl k
   have HS:=hid (Qip B32 dA dB 17 k (lem a k) 8 (HLA.out k hlt) HBl.out)
   generalize Qb2 B32 dA dB 17 k=ws at *
   have HPL:=hid hpl
   clear hpl
   have hkb:decide ((k:Int)<8)=true:=by simp;omega
   go_wp2
   go_loopw [7,8] (fun c i wr=>∃j:Nat,j≤8∧i= .int .i64 j∧c=n64 (Qbw B32 (lem a k) dB ws k j).2∧Blk wr w.heap.size 195 (NL a)∧Blk wr (w.heap.size+1) 195 (NL b)∧Blk wr (w.heap.size+1+1) 195 (QCn 8 (.int .u32 0))∧Blk wr (w.heap.size+1+1+1) 223 ((Qbw B32 (lem a k) dB ws k j).1.map n64)∧Later w wr) (fun _ i _=>8-(intOf i).toNat)
   case atStart=>exact⟨0,by omega,rfl,rfl,h1,h2,h3,h4,L⟩
   case round=>
    clear h1 h2 h3 h4 L
    obtain⟨j,hj4,rfl,rfl,h1,h2,h3,h4,L⟩:=hrel
    have hrl:=QcM B32 (lem a k) dB ws k j
    obtain⟨hrt,hct⟩:=QhS (B:=B32) (lem a k) dB ws k (QCU _ Qbd) hbl hpt j
    by_cases hlj:j<8
    ·have da:=h1.cellD k (Qd2 a k hlt)
     have db:=h2.cellD j (Qd2 b j hlj)
     have dw:=h4.cellD (k+j) (QrJ _ _ (by rw[hrl,HPL.out];omega))
     have hwl:=Qid Qbd hrt (k+j)
     have HR:=hid (QjP B32 (lem a k) dB ws k j (lem b j) (HLB.out j hlj))
     generalize (Qbw B32 (lem a k) dB ws k j).2=c at *
     generalize (Qbw B32 (lem a k) dB ws k j).1.getD (k+j) 0=v at *
     generalize (Qbw B32 (lem a k) dB ws k j).1=vs at *
     have HRL:=hid hrl
     clear hrl
     have hkj:IntKind.i64.wrap ((k:Int)+(j:Int))=((k+j:Nat):Int):=by rw[IntKind.wrap_i64];omega
     have hmul:lem a k*lem b j≤4294967295*4294967295:=Nat.mul_le_mul (Nat.le_of_lt_succ (QCU _ Qbd)) (Nat.le_of_lt_succ (QCU _ Qbd))
     have hsm:(c+v+lem a k*lem b j<B64)=True:=eq_true (by unfold B64;unfold B32 at *;omega)
     have HE:(c+v+lem a k*lem b j)=lem a k*lem b j+v+c:=by omega
     have E0:=hid (show (c+v+lem a k*lem b j)%4294967296=(lem a k*lem b j+v+c)%B32 by rw[HE];rfl)
     have E1:=hid (show (c+v+lem a k*lem b j)/4294967296=(lem a k*lem b j+v+c)/B32 by rw[HE];rfl)
     clear HE hmul
     go_wp2_with fail
     refine Qad [] [0,1,2,3,4,5,6,7,8,9,10,11,12,13,14,15,16,17] [] (by as_aux_lemma=>kernel_rfl) (by as_aux_lemma=>kernel_rfl) (by intro _ _ d _ _ h;cases d<;>exact h) ?_
     simp only[Qai,pick,QCo,QCp,QCq,QCr,QCs]
     repeat (go_big_quiet_step (fail))
     refine wpQuiet_nil ?_
     go_wp2_with (first
      | (refine Qac rfl rfl _ _ _ rfl _ _ _ _ h4.drew rfl ?hl rfl (by kernel_rfl) ?_;(case hl=>rw[QCt,HRL.out,HPL.out];omega);intro v w2 hv hb2 ho2;simp[go_sem]at hv;subst hv)
      | fail)
     go_roundw
     case rel=>
      rw[Qku,E0.out]at hb2
      exact⟨j+1,by omega,by go_num,by rw[HR.out,E1.out],h1.drew.only ho2 (by omega),h2.drew.only ho2 (by omega),h3.drew.only ho2 (by omega),by rw[HR.out];exact hb2,(L.trans (Qab _)).only ho2 (by omega)⟩
     case measure=>simp[intOf];omega
    ·obtain rfl:j=8:=by omega
     generalize hc4:(Qbw B32 (lem a k) dB ws k 8).2=c at *
     generalize hv4:(Qbw B32 (lem a k) dB ws k 8).1=vs at *
     have HRL:=hid hrl
     have HC4:=hid hc4
     have HV4:=hid hv4
     clear hrl hc4 hv4
     have hk8:IntKind.i64.wrap ((k:Int)+8)=((k+8:Nat):Int):=by rw[IntKind.wrap_i64];omega
     go_wp2_with (first
      | (refine Qac rfl rfl _ _ _ rfl _ _ _ _ h4 rfl ?hl rfl (by kernel_rfl) ?_;(case hl=>rw[QCt,HRL.out,HPL.out];omega);intro v w2 hv hb2 ho2;simp[go_sem]at hv;subst hv)
      | fail)
     go_roundw
     case rel=>
      rw[Qku]at hb2
      exact⟨k+1,by omega,by go_num,h1.only ho2 (by omega),h2.only ho2 (by omega),h3.only ho2 (by omega),by rw[HS.out];exact hb2,L.only ho2 (by omega)⟩
     case measure=>simp[intOf];omega
  ·rw[show k=8 by omega,HP.out]at h4
   have hkf:decide ((k:Int)<8)=false:=by simp;omega
   go_wp2_with (first
    | (refine Qk6 rfl _ rfl h4 rfl ?_)
    | (go_at_call 113;(with_reducible refine (HF.out _).mono ?_);rintro e w7 ⟨rfl,hl7⟩)
    | (refine Qaw rfl rfl _ _ rfl (h3.later hl7) rfl rfl rfl ?_;intro w9 hb9 ho9)
    | fail)
   exact bodyPost_ret (Qkc rfl hb9 rfl) rfl ⟨rfl,(L.trans hl7).only ho9 (by omega)⟩
theorem QuS (a:Nat) (w:World):
 Calls Tryz.prog 114 #[NN a,NN 38] w fun e w'=>e= .returned (.tuple #[NN (a+T256-38),.bool (owed B32 a 38 8==1)])∧Later w w':=QiQ a 38 (by decide) w
set_option maxRecDepth 100000 in
set_option maxHeartbeats 2000000 in
theorem QwO (a b:Nat) (ha:a<T256) (hb:b<T256) (w:World):
 Calls Tryz.prog 86 #[NN a,NN b] w fun e w'=>e= .returned (NN ((a+(P25-b%P25))%P25))∧Later w w':=by
 have h1:Blk (((w.alloc (.cells (NL a).toArray 195)).alloc (.cells (NL b).toArray 195)).alloc (.cells (QCn 8 (.int .u32 0)).toArray 195)) w.heap.size 195 (NL a):=((Blk.new _ _ _).later (Qaa _ _)).later (Qaa _ _)
 have h2:Blk (((w.alloc (.cells (NL a).toArray 195)).alloc (.cells (NL b).toArray 195)).alloc (.cells (QCn 8 (.int .u32 0)).toArray 195)) (w.heap.size+1) 195 (NL b):=(Blk.new' _ _ (NL b) (by simp)).later (Qaa _ _)
 have h3:Blk (((w.alloc (.cells (NL a).toArray 195)).alloc (.cells (NL b).toArray 195)).alloc (.cells (QCn 8 (.int .u32 0)).toArray 195)) (w.heap.size+1+1) 195 (QCn 8 (.int .u32 0)):=Blk.new' _ _ (QCn 8 (Value.int .u32 0)) (by simp)
 have L:Later w (((w.alloc (.cells (NL a).toArray 195)).alloc (.cells (NL b).toArray 195)).alloc (.cells (QCn 8 (.int .u32 0)).toArray 195)):=((Qaa _ _).trans (Qaa _ _)).trans (Qaa _ _)
 have hmin:=fun w=>QiQ (a%P25) (b%P25) (QDw (QCU _ QbC) (by decide)) w
 rw[Qon _ _ 8 (by rw[Qez];exact QDw (QCU _ QbC) (by decide)) (by rw[Qez];exact QDw (QCU _ QbC) (by decide))]at hmin
 have HMIN:=hid hmin
 clear hmin
 go_enter Tryz.func86,Tryz.ntmps86
 go_wp2_with fail
 refine QaG [0,2] [([],1,1),([],1,3),([],1,4),([5,6,7],2,8)] [] [9,10] [8] (fun _=>(fun g=>.pointer (some ⟨g,0,none⟩),.cells (QCn 8 (Value.int .u32 0)).toArray 195)) (by as_aux_lemma=>kernel_rfl) (by as_aux_lemma=>kernel_rfl) (by intro _ _ d _ _ h;cases d<;>exact h) (by intro _ _ d _ _ h;cases d<;>exact h) ?_
 simp only[pick,QCo,QCp,QCq,QCr,QCs]
 repeat (first|go_big_quiet_skip|(go_big_quiet_want;(first|refine QbA _ rfl h1.drew rfl ?_|refine QbA _ rfl h2.drew rfl ?_);simp only[Act.put,QCw,QCz,QCy];go_big_quiet_on)|(go_big_quiet_step (fail)))
 refine wpQuiet_nil ?_
 refine⟨?mk,?_⟩
 case mk=>
  refine⟨fun o ho=>?_,trivial⟩
  simp only[QCo,QCp,Option.some.injEq]at ho
  subst ho
  refine⟨rfl,fun W=>?_⟩
  unfold execOp
  simp[go_sem]
 simp only[Qbp,pick,QCo,QCp,QCq,QCr,QCs]
 refine wpQuiet_nil ?_
 intro v1 j1
 go_wp2_with fail
 (with_reducible refine (Qeb a ha _).mono ?_);rintro e v2 ⟨rfl,j2⟩
 go_wp2_with fail
 try refine⟨by first|assumption|exact Qab _|exact Qaa _ _|exact Later.refl _,?_⟩
 try simp only[Qai,pick,QCo,QCp,QCq,QCr,QCs]
 repeat (go_big_quiet_step (fail))
 refine wpQuiet_nil ?_
 intro v3 j3
 go_wp2_with fail
 (with_reducible refine (Qeb b hb _).mono ?_);rintro e v4 ⟨rfl,j4⟩
 go_wp2_with fail
 try refine⟨by first|assumption|exact Qab _|exact Qaa _ _|exact Later.refl _,?_⟩
 try simp only[Qai,pick,QCo,QCp,QCq,QCr,QCs]
 repeat (go_big_quiet_step (fail))
 refine wpQuiet_nil ?_
 intro v5 j5
 go_wp2_with fail
 (with_reducible refine (HMIN.out _).mono ?_);rintro e v6 ⟨rfl,j6⟩
 obtain⟨X,hX⟩:∃X:Bool,X=((if a%P25<b%P25 then 1 else 0)==1):=⟨_,rfl⟩
 rw[←hX]
 have HX:=hid hX
 clear hX
 go_wp2_with fail
 try refine⟨by first|assumption|exact Qab _|exact Qaa _ _|exact Later.refl _,?_⟩
 try simp only[Qai,pick,QCo,QCp,QCq,QCr,QCs]
 repeat (go_big_quiet_step (fail))
 refine wpQuiet_nil ?_
 intro v7 g7 j7 hg7 _ hb7
 refine wpQuiet_nil ?_
 intro v8 j8
 have Lr:=(((((((Qab _).trans j1).trans j2).trans j3).trans j4).trans j5).trans j6).trans (j7.trans j8)
 have hB:Blk v8 g7 195 (QCn 8 (Value.int .u32 0)):=Blk.later hb7 j8
 have hR:=h3.later Lr
 have hlt3:w.heap.size+1+1<g7:=QCM h3.lt hg7
 have L8:=L.trans Lr
 clear h1 h2 h3 j1 j2 j3 j4 j5 j6 j7 j8 hb7 Lr L
 have hap:a%P25<P25:=QCU _ QbC
 have hbp:b%P25<P25:=QCU _ QbC
 have hres:(a+(P25-b%P25))%P25=(a%P25+(P25-b%P25))%P25:=by rw[Nat.mod_add_mod]
 have HRES:=hid hres
 clear hres
 rcases QDq (a%P25) (b%P25) with hmp|hmp
 ·obtain rfl:X=true:=by rw[HX.out,if_pos hmp];rfl
  have hfin:(a%P25+T256-b%P25-38)%P25=(a%P25+(P25-b%P25))%P25:=by unfold T256 P25 at *;omega
  have hc1:NL (a%P25+T256-b%P25+T256-38)=NL (a%P25+T256-b%P25-38):=QmR (by unfold T256 P25 at *;omega)
  have hbd:a%P25+T256-b%P25-38<T256:=by omega
  have HC:=hid hc1
  have HFN:=hid hfin
  clear hc1 hfin hap hbp
  generalize a%P25+T256-b%P25=y at *
  go_wp2_with (first
   | (refine Qaw rfl rfl _ _ rfl hB rfl rfl rfl ?_;intro w1 hb1 ho1
      have hR1:=hR.only ho1 (by omega)
      have L1:=L8.only ho1 (by have:=L8.size;omega))
   | (refine Qa2 rfl _ rfl hb1 rfl ?_)
   | (refine Qaq rfl 195 _ rfl (NL 38) ?hb ?_;(case hb=>kernel_rfl))
   | (go_at_call 114;(with_reducible refine (QuS y _).mono ?_);rintro e w2 ⟨rfl,hl2⟩)
   | (refine Qaw rfl rfl _ _ rfl (hb1.later hl2) rfl rfl (QaB _) ?_;intro w3 hb3 ho3
      rw[HC.out]at hb3
      have hR3:=(hR1.later hl2).only ho3 (by omega)
      have L3:=(L1.trans hl2).only ho3 (by have:=L8.size;omega))
   | (refine Qa2 rfl _ rfl hb3 rfl ?_)
   | (go_at_call 112;(with_reducible refine (Qeb _ hbd _).mono ?_);rintro e w4 ⟨rfl,hl4⟩)
   | (refine Qaw rfl rfl _ _ rfl (hR3.later hl4) rfl rfl rfl ?_;intro w5 hb5 ho5)
   | fail)
  exact bodyPost_ret (Qkc rfl hb5 rfl) rfl ⟨by rw[HRES.out,←HFN.out],(L3.trans hl4).only ho5 (by omega)⟩
 ·obtain rfl:X=false:=by rw[HX.out,if_neg (by omega)];rfl
  have hfin:(a%P25-b%P25)%P25=(a%P25+(P25-b%P25))%P25:=by unfold T256 P25 at *;omega
  have hc1:NL (a%P25+T256-b%P25)=NL (a%P25-b%P25):=QmR (by unfold T256 P25 at *;omega)
  have hbd:a%P25-b%P25<T256:=by unfold T256 P25 at *;omega
  have HC:=hid hc1
  have HFN:=hid hfin
  clear hc1 hfin hap hbp
  generalize a%P25+T256-b%P25=y at *
  generalize a%P25-b%P25=z at *
  go_wp2_with (first
   | (refine Qaw rfl rfl _ _ rfl hB rfl rfl rfl ?_;intro w1 hb1 ho1
      rw[HC.out]at hb1
      have hR1:=hR.only ho1 (by omega)
      have L1:=L8.only ho1 (by have:=L8.size;omega))
   | (refine Qa2 rfl _ rfl hb1 rfl ?_)
   | (go_at_call 112;(with_reducible refine (Qeb _ hbd _).mono ?_);rintro e w4 ⟨rfl,hl4⟩)
   | (refine Qaw rfl rfl _ _ rfl (hR1.later hl4) rfl rfl rfl ?_;intro w5 hb5 ho5)
   | fail)
  exact bodyPost_ret (Qkc rfl hb5 rfl) rfl ⟨by rw[HRES.out,←HFN.out],(L1.trans hl4).only ho5 (by omega)⟩
end Go.Proofs.YtdkpcdgckgaklaaGreat
