/-
  Lemmas for the last text of this claim (part 7 of 20).
-/
import Derived.ArgAppend
import Derived.BigQuiet
import Derived.BigRegion
import Derived.ChangeOld
import Derived.Deep.RegionWith
import Derived.DeepKeys4
import Derived.JoinedCond
import Derived.LaidMore
import Derived.Laws.BytesArg
import Derived.Laws.CopyOwn
import Derived.Laws.Externs
import Derived.Laws.IdiomStrings
import Derived.Laws.Tables
import Derived.Lib.AppendStr
import Derived.Lib.AppendZerosOnto
import Derived.Lib.Mul64
import Derived.Lib.SlBytesConst
import Derived.LoopN
import Derived.Maps.OwnSet
import Derived.OpenShut
import Derived.OrdersHeld
import Derived.ProofKit
import Derived.Shelf.Spec.BitsCarry
import Derived.ShutString
import Derived.Test.YtdhgpkdjdmlphaaGreatProg
import Derived.Test.YtdhgpkdjdmlphaaGreatRows
import Derived.WalkKit
import Derived.WalkLawsBesides
import Derived.WalkSpells
import Derived.Test.YtdhgpkdjdmlphaaGreatSB
import Derived.Test.YtdhgpkdjdmlphaaGreatSE
import Derived.Test.YtdhgpkdjdmlphaaGreatSF
open BitVec renaming toNat_ushiftRight → QDI, toNat_shiftLeft → QEy
open Bool renaming eq_iff_iff → QDv
open Int renaming toNat_natCast → QEs
open List renaming replicate → QCC, getElem?_cons_succ → QCD, getElem?_cons_zero → QCE, length_map → QCG, getElem?_eq_getElem → QCH, nil_append → QCI, cons_append → QCJ, getD_eq_getElem?_getD → QCK, setIfInBounds_toArray → QCL, set_cons_zero → QCP, set_cons_succ → QCQ, take_of_length_le → QCT, getElem?_map → QCY, getElem?_append_left → QC0, length_take → QC5, map_append → QDo, range → QDt, mem_map → QDu, getElem?_replicate → QEi, getElem?_take → QEl, mem_range → QEo, map_congr_left → QEM, range_succ → QEN, ext_getElem → QEP, map_set → QEX
open Nat renaming le_refl → QCN, mod_eq_of_lt → QC1, lt_of_lt_of_le → QC3, zero_add → QC6, mod_lt → QC8, div_div_eq_div_mul → QDs, div_eq_of_lt → QDw, div_add_mod → QDx, mul_comm → QDz, pow_succ → QDA, lt_trans → QDB, pow_le_pow_right → QDC, div_lt_of_lt_mul → QDD, shiftRight_eq_div_pow → QDE, lt_or_ge → QDF, le_mul_of_pos_right → QDK, mul_add → QDR, lt_of_le_of_lt → QDX, mul_mod → QDY, pow_add → QD3, mod_mod → QD4, add_mul_div_left → QD9, mul_le_mul_left → QEe, add_zero → QEm, mul_one → QEq, pow_pos → QEB, add_comm → QEF, shiftLeft_eq → QEI, zero_mod → QEJ, mul_left_comm → QEK, pow_zero → QES, add_mod → QEV
open Option renaming toList_some → QCF
open UInt32 renaming ofNat → QDf, toNat_ofNat' → QEA, toNat_inj → QEW
open UInt64 renaming ofNat → QC4, toNat_ofNat' → QDb, toNat_inj → QEx
open UInt8 renaming ofNat → QDc, toNat_inj → QDr, toNat_ofNat' → QDH
set_option linter.all false
namespace Go.Proofs.YtdhgpkdjdmlphaaGreat
open Go.RowKit
def B64:Nat:=18446744073709551616
def B32:Nat:=4294967296
theorem QaS:0<B64:=by decide
theorem Qbb:0<B32:=by decide
def n64 (n:Nat):Value:=W64 (QC4 n)
def n32 (n:Nat):Value:=W32 (QDf n)
def n8 (n:Nat):Value:=W8 (QDc n)
@[go_sem] theorem QCj (n:Nat):(n%B64<B64)=True:=eq_true (QC8 _ QaS)
@[go_sem] theorem QBJ (n:Nat):(n%B32<B32)=True:=eq_true (QC8 _ Qbb)
theorem QhA {n:Nat} {x:UInt64} (h:x.toNat=n%B64):W64 x=n64 n:=by
 unfold B64 at h
 rw[n64]
 congr 1
 apply QEx.1
 rw[QDb,h]
theorem QsY {n:Nat} {x:UInt32} (h:x.toNat=n%B32):W32 x=n32 n:=by
 unfold B32 at h
 rw[n32]
 congr 1
 apply QEW.1
 rw[QEA,h]
theorem n8_w {n:Nat} {x:UInt8} (h:x.toNat=n%256):W8 x=n8 n:=by
 rw[n8]
 congr 1
 apply QDr.1
 rw[QDH,h]
theorem Qwa {n m:Nat} (h:n%B64=m%B64):n64 n=n64 m:=by
 rw[n64]
 apply QhA
 rw[QDb,←h]
 rfl
theorem Qwy {n m:Nat} (h:n%B32=m%B32):n32 n=n32 m:=by
 rw[n32]
 apply QsY
 rw[QEA,←h]
 rfl
theorem QCa (x:UInt64):W64 x=n64 x.toNat:=by rw[n64,UInt64.ofNat_toNat]
theorem tn64 {n:Nat} (h:n<B64):(QC4 n).toNat=n:=by
 unfold B64 at h
 rw[QDb]
 exact QC1 h
theorem tn32 {n:Nat} (h:n<B32):(QDf n).toNat=n:=by
 unfold B32 at h
 rw[QEA]
 exact QC1 h
theorem QeU {n:Nat} (h:n<B64):n64 n= .int .u64 (n:Int):=by rw[n64,W64,tn64 h]
theorem Qwi {n:Nat} (h:n<B32):n32 n= .int .u32 (n:Int):=by rw[n32,W32,tn32 h]
theorem Qg7 (k:Int) (h0:0≤k) (h1:k<18446744073709551616):Value.int .u64 k=n64 k.toNat:=by
 rw[QeU (by unfold B64;omega)]
 congr 1
 omega
theorem Qxo (k:Int) (h0:0≤k) (h1:k<4294967296):Value.int .u32 k=n32 k.toNat:=by
 rw[Qwi (by unfold B32;omega)]
 congr 1
 omega
@[go_sem ↓] theorem QzO (x:Nat):(n64 x).cells= #[n64 x]:=rfl
@[go_sem ↓] theorem Qz9 (x:Nat):(n32 x).cells= #[n32 x]:=rfl
@[go_sem ↓] theorem QAh (x:Nat):(n8 x).cells= #[n8 x]:=rfl
theorem QqJ (l:List Nat):∀v∈l.map n64,v.oneCell'=true:=by
 intro v hv
 obtain⟨x,_,rfl⟩:=QDu.1 hv
 rfl
theorem Qyt (l:List Nat):∀v∈l.map n32,v.oneCell'=true:=by
 intro v hv
 obtain⟨x,_,rfl⟩:=QDu.1 hv
 rfl
@[go_sem] theorem QAs:(0<B64)=True:=eq_true QaS
@[go_sem] theorem QCl:(1<B64)=True:=eq_true (by decide)
@[go_sem] theorem QAm:(0<B32)=True:=eq_true Qbb
@[go_sem] theorem QBG:(1<B32)=True:=eq_true (by decide)
section
variable (T:TypeId) (ox oy:Operand)
@[go_sem] theorem Qxq (op:BinOp) (x y:Nat):eqGuard op T ox oy (n64 x) (n64 y)=pure ():=Qa4 ..
@[go_sem] theorem Qwf (op:BinOp) (x:Nat) (k:IntKind) (y:Int):eqGuard op T ox oy (n64 x) (.int k y)=pure ():=Qa4 ..
@[go_sem] theorem Qwh (op:BinOp) (x:Nat) (k:IntKind) (y:Int):eqGuard op T ox oy (.int k y) (n64 x)=pure ():=Qa4 ..
@[go_sem] theorem QwR (op:BinOp) (x y:Nat):eqGuard op T ox oy (n32 x) (n32 y)=pure ():=Qa4 ..
@[go_sem] theorem QvU (op:BinOp) (x:Nat) (k:IntKind) (y:Int):eqGuard op T ox oy (n32 x) (.int k y)=pure ():=Qa4 ..
@[go_sem] theorem QvJ (op:BinOp) (x:Nat) (k:IntKind) (y:Int):eqGuard op T ox oy (.int k y) (n32 x)=pure ():=Qa4 ..
@[go_sem] theorem Qq6 (x y:Nat):binOp .add T (n64 x) (n64 y)=pure (n64 (x+y)):=by
  rw[n64,n64,QmV,QhA]
  rw[UInt64.toNat_add,QDb,QDb]
  unfold B64
  omega
@[go_sem] theorem QAG (x:Nat) (k:Int) (h0:0≤k) (h1:k<18446744073709551616):binOp .add T (n64 x) (.int .u64 k)=pure (n64 (x+k.toNat)):=by rw[Qg7 k h0 h1,Qq6]
@[go_sem] theorem QA6 (x:Nat) (k:Int) (h0:0≤k) (h1:k<18446744073709551616):binOp .add T (.int .u64 k) (n64 x)=pure (n64 (k.toNat+x)):=by rw[Qg7 k h0 h1,Qq6]
@[go_sem] theorem Qti (x y:Nat) (hx:x<B64) (hy:y≤x):binOp .sub T (n64 x) (n64 y)=pure (n64 (x-y)):=by
  rw[n64,n64,Qna,QhA]
  unfold B64 at hx
  rw[UInt64.toNat_sub,QDb,QDb]
  unfold B64
  omega
@[go_sem] theorem QnX (x y:Nat):binOp .mul T (n64 x) (n64 y)=pure (n64 (x*y)):=by
  rw[n64,n64,QnH,QhA]
  rw[UInt64.toNat_mul,QDb,QDb]
  exact (QDY x y B64).symm
@[go_sem] theorem QAM (x:Nat) (k:Int) (h0:0≤k) (h1:k<18446744073709551616):binOp .mul T (n64 x) (.int .u64 k)=pure (n64 (x*k.toNat)):=by rw[Qg7 k h0 h1,QnX]
@[go_sem] theorem QBf (x:Nat) (k:Int) (h0:0≤k) (h1:k<18446744073709551616):binOp .mul T (.int .u64 k) (n64 x)=pure (n64 (k.toNat*x)):=by rw[Qg7 k h0 h1,QnX]
theorem Qf6 (x:Nat) (k:Nat):x &&& (2^k-1)=x%2^k:=Nat.and_two_pow_sub_one_eq_mod x k
@[go_sem] theorem QzK (x:Nat):binOp .and T (n64 x) (.int .u64 9223372036854775807)=pure (n64 (x%9223372036854775808)):=by
  rw[n64,QkP _ _ _ (by omega) (by omega),QhA]
  rw[UInt64.toNat_and,QDb,QDb]
  have:=Qf6 (x%2^64) 63
  unfold B64
  simp only[Int.reduceToNat,Nat.reducePow,Nat.reduceSub,Nat.reduceMod]at this ⊢
  rw[this]
  omega
@[go_sem] theorem Qz7 (x:Nat):binOp .and T (n64 x) (.int .u64 4294967295)=pure (n64 (x%4294967296)):=by
  rw[n64,QkP _ _ _ (by omega) (by omega),QhA]
  rw[UInt64.toNat_and,QDb,QDb]
  have:=Qf6 (x%2^64) 32
  unfold B64
  simp only[Int.reduceToNat,Nat.reducePow,Nat.reduceSub,Nat.reduceMod]at this ⊢
  rw[this]
  omega
@[go_sem] theorem QyX (x:Nat):binOp .and T (n64 x) (.int .u64 1)=pure (n64 (x%2)):=by
  rw[n64,QkP _ _ _ (by omega) (by omega),QhA]
  rw[UInt64.toNat_and,QDb,QDb]
  have:=Qf6 (x%2^64) 1
  unfold B64
  simp only[Int.reduceToNat,Nat.reducePow,Nat.reduceSub,Nat.reduceMod]at this ⊢
  rw[this]
  omega
@[go_sem] theorem QyC (x:Nat) (hx:x<B64) (yk:IntKind) (k:Int) (h0:0≤k):binOp .shr T (n64 x) (.int yk k)=pure (n64 (x/2^k.toNat)):=by
  rw[n64,QkN _ _ _ _ h0,QhA]
  rw[QgW]
  show (BitVec.toNat _)=_
  rw[QDI]
  show (QC4 x).toNat >>> _=_
  rw[tn64 hx,QDE]
  have:x/2^k.toNat<B64:=QDX (Nat.div_le_self _ _) hx
  rw[QC1 this]
@[go_sem] theorem Qw5 (x:Nat) (hx:x<B64) (k:Int) (h0:0<k) (h1:k<18446744073709551616):binOp .rem T (n64 x) (.int .u64 k)=pure (n64 (x%k.toNat)):=by
  rw[n64,QtZ _ _ _ (by omega) h1 (by rw[QDb];omega),QhA]
  rw[UInt64.toNat_mod,tn64 hx,QDb,QC1 (show k.toNat<2^64 by omega),QC1 (QDX (Nat.mod_le _ _) hx)]
@[go_sem] theorem QyK (x:Nat):binOp .rem T (n64 x) (.int .u64 4294967296)=pure (n64 (x%B32)):=by
  rw[Qwa (show x%B64=(x%B64)%B64 by rw[QD4]),Qw5 _ _ (QC8 _ QaS) _ (by omega) (by omega)]
  congr 2
  unfold B64 B32
  simp only[Int.reduceToNat]
  omega
theorem Qyu (x y:Nat) (hx:x<B64) (hy:y<B64):binOp .eql T (n64 x) (n64 y)=pure (.bool (x==y)):=by
 rw[n64,n64,Qnx]
 congr 2
 rw[QDv]
 simp only[beq_iff_eq,←QEx,tn64 hx,tn64 hy]
@[go_sem] theorem QAW (x:Nat) (k:Int) (hx:x<B64) (h0:0≤k) (h1:k<18446744073709551616):binOp .eql T (n64 x) (.int .u64 k)=pure (.bool (x==k.toNat)):=by
  rw[Qg7 k h0 h1,Qyu _ _ _ hx (by unfold B64;omega)]
@[go_sem] theorem QAx (x:Nat) (k:Int) (hx:x<B64) (h0:0≤k) (h1:k<18446744073709551616):binOp .gtr T (n64 x) (.int .u64 k)=pure (.bool (decide (k.toNat<x))):=by
  rw[Qg7 k h0 h1,n64,n64,QnO]
  congr 2
  rw[QDv]
  simp only[decide_eq_true_eq,UInt64.lt_iff_toNat_lt,tn64 hx]
  rw[tn64 (show k.toNat<B64 by unfold B64;omega)]
@[go_sem] theorem QB6 (x y:Nat) (hx:x<B64) (hy:y<B64):binOp .lss T (n64 x) (n64 y)=pure (.bool (decide (x<y))):=by
  rw[n64,n64,QmX]
  congr 2
  rw[QDv]
  simp only[decide_eq_true_eq,UInt64.lt_iff_toNat_lt,tn64 hx,tn64 hy]
end
section
variable {P:Program} (w:World) (S D:TypeId)
@[go_sem] theorem Qn0 (x:Nat) (hx:x<B32) (hs:(P.underlying S).isSome=true) (hd:P.underlying D=some (.int .u64)):(convert S D (n32 x)).run P w= .ok (n64 x) w:=by
  rw[n32,QfV _ _ _ _ hs hd,QhA]
  rw[UInt32.toNat_toUInt64,tn32 hx,QC1 (show x<B64 by unfold B32 at hx;unfold B64;omega)]
@[go_sem] theorem QmA (x:Nat) (hs:(P.underlying S).isSome=true) (hd:P.underlying D=some (.int .u32)):(convert S D (n64 x)).run P w= .ok (n32 x) w:=by
  rw[n64,QfX _ _ _ _ hs hd,QsY]
  rw[UInt64.toNat_toUInt32,QDb]
  unfold B32
  omega
@[go_sem] theorem Qov (x:Nat) (hs:(P.underlying S).isSome=true) (hd:P.underlying D=some (.int .u8)):(convert S D (n64 x)).run P w= .ok (n8 x) w:=by
  rw[n64,Qgc _ _ _ _ hs hd,n8_w]
  rw[UInt64.toNat_toUInt8,QDb]
  omega
@[go_sem] theorem QuT (P:Program) (w:World) (a:Addr) (m:Mode) (x:Nat):(store a (n64 x) m).run P w=stored P w a (n64 x) m:=run_store P w a _ m rfl
@[go_sem] theorem QvA (P:Program) (w:World) (a:Addr) (m:Mode) (x:Nat):(store a (n32 x) m).run P w=stored P w a (n32 x) m:=run_store P w a _ m rfl
@[go_sem] theorem Qwj (P:Program) (w:World) (a:Addr) (m:Mode) (x:Nat):(store a (n8 x) m).run P w=stored P w a (n8 x) m:=run_store P w a _ m rfl
end
def EL (n:Nat):List Value:=(dig B64 4 n).map n64
abbrev E (n:Nat):Value:=.agg (EL n).toArray
theorem Qaj (n:Nat):(EL n).length=4:=by rw[EL,QCG,QaL]
def lim (n i:Nat):Nat:=n/B64^i%B64
@[go_sem] theorem QCw (n i:Nat):(lim n i<B64)=True:=eq_true (QC8 _ QaS)
theorem QcV (n i:Nat) (h:i<4):(EL n)[i]?=some (n64 (lim n i)):=by rw[EL,QCY,Qf7 _ _ _ _ h];rfl
@[go_sem] theorem Qrq (n i:Nat) (h:i<(EL n).length):(EL n)[i]=n64 (lim n i):=by
  have:=QcV n i (by rw[Qaj]at h;exact h)
  rw[QCH h]at this
  exact Option.some.inj this
theorem QgI (x y c:Nat) (hx:x<B64) (hy:y<B64) (hc:c≤1) (w:World):
 (callFunc 176 #[n64 x,n64 y,n64 c]).run Tryz.prog w= .ok (.value (.tuple #[n64 ((x+y+c)%B64),n64 ((x+y+c)/B64)])) w:=by
 rw[QeU hx,QeU hy,QeU (show c<B64 by unfold B64;omega),run_callFunc_extern Tryz.func176 (by kernel_rfl) (by kernel_rfl) (by kernel_rfl) (e:=add64Entry) (by kernel_rfl),run_add64 _ _ _ (by omega) (by omega) (by omega) (by omega)]
 simp only[Result.andThen]
 rw[QeU (QC8 _ QaS),QeU (show (x+y+c)/B64<B64 by unfold B64 at *;omega)]
 congr 5<;>(unfold B64;omega)
@[go_sem high] theorem run_add64 (x y c:Nat) (hx:x<B64) (hy:y<B64) (hc:c≤1) (w:World):
   (callFunc 176 #[n64 x,n64 y,n64 c]).run Tryz.prog w= .ok (.value (.tuple #[n64 ((x+y+c)%B64),n64 ((x+y+c)/B64)])) w:=QgI x y c hx hy hc w
@[go_sem high] theorem Qyw (x y:Nat) (hx:x<B64) (hy:y<B64) (w:World):
   (callFunc 176 #[n64 x,n64 y,.int .u64 0]).run Tryz.prog w= .ok (.value (.tuple #[n64 ((x+y)%B64),n64 ((x+y)/B64)])) w:=QgI x y 0 hx hy (by omega) w
@[go_sem high] theorem QxA (x c:Nat) (hx:x<B64) (hc:c≤1) (w:World):
   (callFunc 176 #[n64 x,.int .u64 0,n64 c]).run Tryz.prog w= .ok (.value (.tuple #[n64 ((x+c)%B64),n64 ((x+c)/B64)])) w:=QgI x 0 c hx QaS hc w
theorem QoU (n:Nat):∀v∈EL n,v.oneCell'=true:=QqJ _
theorem Qlf {B n:Nat} (h:n<B) (k:Nat) (hk:0<k):n/B^k%B=0:=by
 rw[QDw (QC3 h (Nat.le_pow (by omega))),QEJ]
set_option maxHeartbeats 1000000 in
theorem Qgf (a n:Nat) (hn:n<B64) (w:World):
 Calls Tryz.prog 154 #[E a,n64 n] w fun e w'=>e= .returned (.tuple #[E (a+n),n64 ((a%B64^4+n)/B64^4)])∧Later w w':=by
 have hlS:=Qaj (a+n)
 have hlA:=Qaj a
 have hb:Blk ((w.alloc (.cells (EL a).toArray 211)).alloc (.cells (QCC 4 (.int .u64 0)).toArray 211)) w.heap.size 211 (EL a):=(Blk.new _ _ _).later (Qaa _ _)
 have hr:Blk ((w.alloc (.cells (EL a).toArray 211)).alloc (.cells (QCC 4 (.int .u64 0)).toArray 211)) (w.heap.size+1) 211 (QCC 4 (.int .u64 0)):=Blk.new' _ _ _ (by simp)
 go_enter Tryz.func154,Tryz.ntmps154
 go_wp2_with (first
  | (refine Qad rfl rfl _ _ _ rfl _ _ _ _ hb rfl ?hl rfl (by kernel_rfl) ?_;(case hl=>omega);intro v w1 hv hb1 ho1;simp[go_sem]at hv;subst hv))
 have e0:(lim a 0+n)%B64=lim (a+n) 0:=by
  simp[lim]
 have e1:(lim a 0+n)/B64=carr B64 a n 0 1:=by
  simp[carr,lim,QC1 hn]
 rw[e0,←Qbm (EL (a+n)) (EL a),QaQ _ _ _ _ (by omega) (by omega) (QcV (a+n) 0 (by omega))]at hb1
 have HE:=hid e1
 clear e0 e1
 have L1:Later w w1:=((Qaa _ _).trans (Qaa _ _)).only ho1 (QCN _)
 have hr1:=hr.only ho1 (by omega)
 go_loopw [6,7] (fun c i wr=>∃k:Nat,1≤k∧k≤4∧i= .int .i64 k∧c=n64 (carr B64 a n 0 k)∧Blk wr w.heap.size 211 (Qby (EL (a+n)) (EL a) k)∧Blk wr (w.heap.size+1) 211 (QCC 4 (.int .u64 0))∧Later w wr) (fun _ i _=>4-(intOf i).toNat)
 case atStart=>exact⟨1,by omega,by omega,rfl,by rw[HE.out],hb1,hr1,L1⟩
 case round=>
  clear hb hr hb1 hr1 L1 ho1 HE
  obtain⟨k,hk1,hk4,rfl,rfl,hb,hr,L⟩:=hrel
  by_cases hlt:k<4
  ·have hc:=Qng QaS a n 0 k (by omega)
   have S0:=hid (QmZ QaS a n 0 k)
   have S1:=hid (QiV QaS a n 0 k)
   have d0:=hb.cellD k (u:=n64 (lim a k)) (by rw[Qeo _ _ _ _ (by omega) (QCN _) (by omega)];exact QcV a k hlt)
   generalize carr B64 a n 0 k=c at *
   go_wp2_with (first
    | (refine Qad rfl rfl _ _ _ rfl _ _ _ _ hb rfl ?hl rfl (by kernel_rfl) ?_;(case hl=>rw[Qau _ _ _ (by omega)];omega);intro v w2 hv hb2 ho2;simp[go_sem]at hv;subst hv))
   go_roundw
   case rel=>
    have z:n/B64^k%B64=0:=Qlf hn k hk1
    have e0:=S0.out
    have e1:=S1.out
    rw[z]at e0 e1
    rw[QaQ _ _ _ _ (by omega) (by omega) (by rw[QcV (a+n) k hlt,lim,lim,←QEm (a+n),←e0,QEm])]at hb2
    exact⟨k+1,by omega,by omega,by go_num,by rw[←e1];rfl,hb2,hr.only ho2 (by omega),L.only ho2 (QCN _)⟩
   case measure=>simp[intOf];omega
  ·obtain rfl:k=4:=by omega
   have hcE:carr B64 a n 0 4=(a%B64^4+n)/B64^4:=by
    rw[carr,QC1 (show n<B64^4 from QC3 hn (Nat.le_pow (by omega)))]
    rfl
   rw[QbT _ _ _ hlS hlA]at hb
   have HC:=hid hcE
   clear hcE
   go_wp2_with (first
    | (refine QaG rfl 211 _ rfl w.heap.size 0 (EL (a+n)) ?hc ?hx _ Tryz.underlying211 rfl ?hi ?_;(case hx=>rfl);(case hi=>rw[hlS];kernel_rfl);(case hc=>intro j v hv;rw[QC6];exact hb.cellD j hv))
    | (refine Qak rfl rfl 211 _ _ rfl (w.heap.size+1) 0 211 _ (EL (a+n)) hr ?hx ?hy ?hi ?hf ?h1 ?_;(case hx=>rfl);(case hy=>rfl);(case hi=>rw[hlS];kernel_rfl);(case hf=>simp[hlS]);(case h1=>exact QoU _);intro w9 hb9 ho9))
   rw[Qas _ _ (by simp[hlS])]at hb9
   exact bodyPost_ret (Qaf rfl _ _ _ _ (EL (a+n)) _ hb9 rfl Tryz.underlying211 rfl (by rw[hlS];kernel_rfl)) rfl ⟨by rw[←HC.out];rfl,L.only ho9 (by omega)⟩
def P25:Nat:=57896044618658097711785492504343953926634992332820282019728792003956564819949
def T255:Nat:=57896044618658097711785492504343953926634992332820282019728792003956564819968
def T256:Nat:=115792089237316195423570985008687907853269984665640564039457584007913129639936
theorem QdJ:B64^4=T256:=by decide
theorem Qbi:0<P25:=by decide
theorem Qst (n:Nat) (hn:n<T256):∃u,u=n%T255+19*(n/T255)∧(u+19<T255→u=n%P25)∧(T255≤u+19→u+19<T256∧u+19-T255=n%P25):=by
 refine⟨_,rfl,?_,?_⟩<;>unfold T255 P25 at* <;>unfold T256 at* <;>omega
theorem lim3 (n:Nat) (hn:n<T256):lim n 3/9223372036854775808=n/T255:=by
 unfold lim B64 T255
 unfold T256 at hn
 omega
theorem QoW (n:Nat):(EL n).set 3 (n64 (lim n 3%9223372036854775808))=EL (n%T255):=by
 have h0:lim n 0=lim (n%T255) 0:=by unfold lim T255 B64;omega
 have h1:lim n 1=lim (n%T255) 1:=by unfold lim T255 B64;omega
 have h2:lim n 2=lim (n%T255) 2:=by unfold lim T255 B64;omega
 have h3:lim n 3%9223372036854775808=lim (n%T255) 3:=by unfold lim T255 B64;omega
 have e:∀m,EL m=[n64 (lim m 0),n64 (lim m 1),n64 (lim m 2),n64 (lim m 3)]:=by
  intro m
  apply QEP (Qaj m)
  intro i hi1 hi2
  rw[Qrq]
  have:i=0∨i=1∨i=2∨i=3:=by rw[Qaj]at hi1;omega
  rcases this with rfl|rfl|rfl|rfl<;>rfl
 rw[e,e,h0,h1,h2,h3]
 rfl
theorem QgJ:(Tryz.prog.info? 211).map (·.size)=some 4:=by kernel_rfl
section
variable {ops:Array Oper} {rest:List Oper} {o:Oper} {a:Act} {w:World} {Q:Exit→Act→World→Prop}
theorem Qbz (hgd:Region.wanted o (yielded ops a.tmps)=true) (x:Operand) (ho:o.op= .load 211 x) {g:Nat} {t:TypeId} {n:Nat} (hb:Blk w g t (EL n)) (hx:a.eval x= .pointer (some ⟨g,0,none⟩))
 (h:wpList Tryz.prog ops Q rest (a.put o.dst (E n)) w):wpList Tryz.prog ops Q (o :: rest) a w:=
 Qbp hgd _ x ho g t _ hb hx _ Tryz.underlying211 rfl 4 QgJ (Qaj n) h
theorem QaE (hgd:o.guard=none) (hd:o.dst=none) (x y:Operand) (ho:o.op= .store 211 x y) {g:Nat} {t:TypeId} {l:List Value} {n:Nat} (hg:Blk w g t l) (hx:a.eval x= .pointer (some ⟨g,0,none⟩)) (hy:a.eval y=E n) (hl:l.length=4)
 (h:∀w',Blk w' g t (EL n)→Only g w w'→wpList Tryz.prog ops Q rest a w'):wpList Tryz.prog ops Q (o :: rest) a w:=
 QaJ hgd hd _ x y ho g t l _ hg hx hy 4 QgJ (Qaj n) hl (QoU n) h
theorem QgM {fn:Func} {p:Tmp} (hf:fn.results= #[.cell p 211]) {tmps:Array Value} {g:Nat} {t:TypeId} {n:Nat} (hg:Blk w g t (EL n)) (hp:tmps.getD p undef= .pointer (some ⟨g,0,none⟩)):
 (results fn tmps).run Tryz.prog w= .ok (E n) w:=QaP hf tmps w g t _ _ hg hp Tryz.underlying211 rfl (by rw[Qaj];exact QgJ)
theorem QcG {K:Act→Prop} (x:Operand) (ho:o.op= .load 211 x) {w0:World} {g:Nat} {t:TypeId} {n:Nat} (hb:Blk w0 g t (EL n)) (hx:a.eval x= .pointer (some ⟨g,0,none⟩)) (h:K (a.put o.dst (E n))):
 o.quiet Tryz.prog a (fun w'=>∃x,w'=grow w0 x) K:=
 Qa3 _ x ho g 0 (EL n) (fun w' hw j v hv=>by obtain⟨y,rfl⟩:=hw;rw[QC6];exact (hb.later ⟨y,rfl⟩).cellD j hv) hx _ Tryz.underlying211 rfl (by rw[Qaj];exact QgJ) h
end
theorem QsT (a:Nat) (w:World):Calls Tryz.prog 154 #[E a,.int .u64 19] w fun e w'=>e= .returned (.tuple #[E (a+19),n64 ((a%B64^4+19)/B64^4)])∧Later w w':=Qgf a 19 (by decide) w
set_option maxHeartbeats 1000000 in
theorem Qd3 (n:Nat) (hn:n<T256) (w:World):
 Calls Tryz.prog 123 #[E n] w fun e w'=>e= .returned (E (n%P25))∧Later w w':=by
 obtain⟨u,hu,hu1,hu2⟩:=Qst n hn
 have hl3:=lim3 n hn
 have hq:n/T255≤1:=by unfold T255;unfold T256 at hn;omega
 have hus:u<T256:=by unfold T255 at hu;unfold T256 at *;omega
 have hus':u+19<T256:=by unfold T255 at hu;unfold T256 at *;omega
 have hlu:=lim3 (u+19) hus'
 have HQ:=hid hl3
 have HU:=hid hu
 have HL:=hid hlu
 clear hl3 hu hlu
 have hlS:=Qaj n
 have hb:Blk ((w.alloc (.cells (EL n).toArray 211)).alloc (.cells (QCC 4 (.int .u64 0)).toArray 211)) w.heap.size 211 (EL n):=(Blk.new _ _ _).later (Qaa _ _)
 have hr:Blk ((w.alloc (.cells (EL n).toArray 211)).alloc (.cells (QCC 4 (.int .u64 0)).toArray 211)) (w.heap.size+1) 211 (QCC 4 (.int .u64 0)):=Blk.new' _ _ _ (by simp)
 have hcs:u+19<T255∧(u+19)/T255=0∨T255≤u+19∧(u+19)/T255=1:=by unfold T255;unfold T256 at hus';omega
 rcases hcs with ⟨hlt,hz⟩|⟨hge,hz⟩
 ·have hz':lim (u+19) 3/9223372036854775808=0:=HL.out.trans hz
  have hR:=hid (hu1 hlt)
  clear hz hu1 hu2
  go_enter Tryz.func123,Tryz.ntmps123
  go_wp2_with (first
   | (refine Qad rfl rfl _ _ _ rfl _ _ _ _ hb rfl ?hl rfl (by kernel_rfl) ?_;(case hl=>omega);intro v w1 hv hb1 ho1;simp[go_sem]at hv;subst hv
      rw[QoW]at hb1
      have hr1:=hr.only ho1 (by omega)
      have L1:Later w w1:=((Qaa _ _).trans (Qaa _ _)).only ho1 (QCN _)
      clear hb hr ho1)
   | (refine Qbz rfl _ rfl hb1 rfl ?_)
   | (go_at_call 154;(with_reducible refine (Qgf (n%T255) _ ?hb19 _).mono ?_);(case hb19=>rw[HQ.out];unfold B64;omega);rintro e w2 ⟨rfl,hl2⟩;rw[HQ.out,←HU.out]
      replace hb1:=hb1.later hl2
      have hr2:=hr1.later hl2
      have L2:=L1.trans hl2
      clear hr1 L1 hl2)
   | (refine QaE rfl rfl _ _ rfl hb1 rfl rfl (Qaj _) ?_;intro w3 hb3 ho3
      have hr3:=hr2.only ho3 (by omega)
      have L3:=L2.only ho3 (QCN _)
      clear hr2 L2 ho3 hb1)
   | (refine Qbz rfl _ rfl hb3 rfl ?_)
   | (go_at_call 154;(with_reducible refine (QsT u _).mono ?_);rintro e w4 ⟨rfl,hl4⟩
      have hb4:=(hb3.later hl4).later (Qaa _ (.cells (QCC 4 (.int .u64 0)).toArray 211))
      have hr4:=(hr3.later hl4).later (Qaa _ (.cells (QCC 4 (.int .u64 0)).toArray 211))
      have L4:=(L3.trans hl4).alloc (.cells (QCC 4 (.int .u64 0)).toArray 211)
      have hs4:=hr3.lt
      have hs5:=hl4.size
      have hn4:Blk (w4.alloc (.cells (QCC 4 (.int .u64 0)).toArray 211)) w4.heap.size 211 (QCC 4 (.int .u64 0)):=Blk.new _ _ _
      clear hr3 L3 hl4 hb3)
   | (refine QaE rfl rfl _ _ rfl hn4 rfl rfl rfl ?_;intro w5 hb5 ho5
      have hu5:=hb4.only ho5 (by omega)
      have hr5:=hr4.only ho5 (by omega)
      have L5:=L4.only ho5 (by omega)
      have d5:=hb5.cellD 3 (QcV _ 3 (by omega))
      clear hr4 L4 ho5 hb4)
   | (refine Qbz rfl _ rfl hu5 rfl ?_)
   | (refine QaE rfl rfl _ _ rfl hr5 rfl rfl rfl ?_;intro w6 hb6 ho6))
  exact bodyPost_ret (QgM rfl hb6 rfl) rfl ⟨by rw[hR.out],L5.only ho6 (by omega)⟩
 ·have hz':lim (u+19) 3/9223372036854775808=1:=HL.out.trans hz
  obtain⟨_,hu3⟩:=hu2 hge
  have hm:(u+19)%T255=n%P25:=by rw[←hu3];unfold T255 at *;unfold T256 at *;omega
  have hR:=hid hm
  clear hz hu1 hu2 hu3 hm
  go_enter Tryz.func123,Tryz.ntmps123
  go_wp2_with (first
   | (refine Qad rfl rfl _ _ _ rfl _ _ _ _ hb rfl ?hl rfl (by kernel_rfl) ?_;(case hl=>omega);intro v w1 hv hb1 ho1;simp[go_sem]at hv;subst hv
      rw[QoW]at hb1
      have hr1:=hr.only ho1 (by omega)
      have L1:Later w w1:=((Qaa _ _).trans (Qaa _ _)).only ho1 (QCN _)
      clear hb hr ho1)
   | (refine Qbz rfl _ rfl hb1 rfl ?_)
   | (go_at_call 154;(with_reducible refine (Qgf (n%T255) _ ?hb19 _).mono ?_);(case hb19=>rw[HQ.out];unfold B64;omega);rintro e w2 ⟨rfl,hl2⟩;rw[HQ.out,←HU.out]
      replace hb1:=hb1.later hl2
      have hr2:=hr1.later hl2
      have L2:=L1.trans hl2
      clear hr1 L1 hl2)
   | (refine QaE rfl rfl _ _ rfl hb1 rfl rfl (Qaj _) ?_;intro w3 hb3 ho3
      have hr3:=hr2.only ho3 (by omega)
      have L3:=L2.only ho3 (QCN _)
      clear hr2 L2 ho3 hb1)
   | (refine Qbz rfl _ rfl hb3 rfl ?_)
   | (go_at_call 154;(with_reducible refine (QsT u _).mono ?_);rintro e w4 ⟨rfl,hl4⟩
      have hb4:=(hb3.later hl4).later (Qaa _ (.cells (QCC 4 (.int .u64 0)).toArray 211))
      have hr4:=(hr3.later hl4).later (Qaa _ (.cells (QCC 4 (.int .u64 0)).toArray 211))
      have L4:=(L3.trans hl4).alloc (.cells (QCC 4 (.int .u64 0)).toArray 211)
      have hs4:=hr3.lt
      have hs5:=hl4.size
      have hn4:Blk (w4.alloc (.cells (QCC 4 (.int .u64 0)).toArray 211)) w4.heap.size 211 (QCC 4 (.int .u64 0)):=Blk.new _ _ _
      clear hr3 L3 hl4 hb3)
   | (refine QaE rfl rfl _ _ rfl hn4 rfl rfl rfl ?_;intro w5 hb5 ho5
      have hu5:=hb4.only ho5 (by omega)
      have hr5:=hr4.only ho5 (by omega)
      have L5:=L4.only ho5 (by omega)
      have d5:=hb5.cellD 3 (QcV _ 3 (by omega))
      clear hr4 L4 ho5 hb4)
   | (refine Qad rfl rfl _ _ _ rfl _ _ _ _ hb5 rfl ?hl rfl (by kernel_rfl) ?_;(case hl=>rw[Qaj];omega);intro v w6 hv hb6 ho6;simp[go_sem]at hv;subst hv
      rw[QoW,hR.out]at hb6
      have hr6:=hr5.only ho6 (by omega)
      have L6:=L5.only ho6 (by omega))
   | (refine Qbz rfl _ rfl hb6 rfl ?_)
   | (refine QaE rfl rfl _ _ rfl hr6 rfl rfl rfl ?_;intro w7 hb7 ho7))
  exact bodyPost_ret (QgM rfl hb7 rfl) rfl ⟨rfl,L6.only ho7 (by omega)⟩
theorem Qnk {a a' b b':Value} (h:a=a') (h':b=b'):Ending.returned (.tuple #[a,b])= .returned (.tuple #[a',b']):=by rw[h,h']
set_option maxHeartbeats 1000000 in
theorem QqV (x y:Nat) (hx:x<B64) (hy:y<B64) (w:World):
 Calls Tryz.prog 191 #[n64 x,n64 y] w fun e w'=>e= .returned (.tuple #[n64 (x*y/B64),n64 (x*y%B64)])∧w=w':=by
 have hB:B64=18446744073709551616:=rfl
 obtain⟨bd,bt,bw,hhi⟩:=Lib.mul64_hi x y hx hy
 rw[←hB]at hhi bd bt bw
 have HH:=hid hhi
 clear hhi hB
 go_enter Tryz.func191,Tryz.ntmps191
 go_wp2
 go_ret2
 exact⟨Qnk (congrArg n64 HH.out) (Qwa (QD4 (x*y) B64).symm),rfl⟩
theorem Qs3 (p m c:Nat):p/B64+(p%B64+m)/B64+((p+m)%B64+c)/B64=(p+m+c)/B64:=by
 unfold B64
 omega
set_option maxHeartbeats 1000000 in
theorem Qo1 (x y m c:Nat) (hx:x<B64) (hy:y<B64) (hm:m<B64) (hc:c<B64) (w:World):
 Calls Tryz.prog 179 #[n64 x,n64 y,n64 m,n64 c] w fun e w'=>e= .returned (.tuple #[n64 ((x*y+m+c)%B64),n64 ((x*y+m+c)/B64)])∧w=w':=by
 have H2:=hid (Qs3 (x*y) m c)
 go_enter Tryz.func179,Tryz.ntmps179
 go_wp2_with (go_at_call 191;(with_reducible refine (QqV x y hx hy _).mono ?_);rintro e w' ⟨rfl,rfl⟩)
 go_ret2
 exact⟨Qnk rfl (congrArg n64 H2.out),rfl⟩
set_option maxHeartbeats 1000000 in
theorem Qoj (a b:Nat) (hsum:a+b<T256) (w:World):
 Calls Tryz.prog 177 #[E a,E b] w fun e w'=>e= .returned (E ((a+b)%P25))∧Later w w':=by
 have hlS:=Qaj (a+b)
 have hlA:=Qaj a
 go_enter Tryz.func177,Tryz.ntmps177
 go_wp2
 go_loopw [5,7] (fun c i wr=>∃k:Nat,k≤4∧i= .int .i64 k∧c=n64 (carr B64 a b 0 k)∧Blk wr w.heap.size 211 (Qby (EL (a+b)) (EL a) k)∧Blk wr (w.heap.size+1) 211 (EL b)∧Blk wr (w.heap.size+1+1) 211 (QCC 4 (.int .u64 0))∧Later w wr) (fun _ i _=>4-(intOf i).toNat)
 case atStart=>
  refine⟨0,by omega,rfl,by rw[Qlq];rfl,?_,?_,Blk.new' _ _ (QCC 4 (Value.int .u64 0)) (by simp),((Qaa _ _).trans (Qaa _ _)).trans (Qaa _ _)⟩
  ·rw[Qbm]
   exact ((Blk.new _ _ _).later (Qaa _ _)).later (Qaa _ _)
  ·exact (Blk.new' _ _ _ (by simp)).later (Qaa _ _)
 case round=>
  obtain⟨k,hk4,rfl,rfl,h1,h2,h3,L⟩:=hrel
  by_cases hlt:k<4
  ·have hc:=Qng QaS a b 0 k (by omega)
   have S0:=hid (QmZ QaS a b 0 k)
   have S1:=hid (QiV QaS a b 0 k)
   have d0:=h1.cellD k (u:=n64 (lim a k)) (by rw[Qeo _ _ _ _ (by omega) (QCN _) (by omega)];exact QcV a k hlt)
   have d1:=h2.cellD k (QcV b k hlt)
   generalize carr B64 a b 0 k=c at *
   go_wp2
   refine Qag [([0,1,2,3,4,5,6,7],8)] [9,10,11,12] [13,14] (by as_aux_lemma=>kernel_rfl) (by as_aux_lemma=>kernel_rfl) (by intro _ _ d _ _ h;cases d<;>exact h) ?_
   simp only[Qai,pick,QCD,QCE,QCF,QCJ,QCI]
   repeat (go_big_quiet_step (fail))
   refine wpQuiet_nil ?_
   go_wp2
   try refine⟨by first|assumption|exact Qab _|exact Qaa _ _|exact Later.refl _,?_⟩
   try simp only[Qai,pick,QCD,QCE,QCF,QCJ,QCI]
   repeat (go_big_quiet_step (fail))
   refine wpQuiet_nil ?_
   go_wp2_with (first
    | (refine Qad rfl rfl _ _ _ rfl _ _ _ _ h1.drew rfl ?hl rfl (by kernel_rfl) ?_;(case hl=>rw[Qau _ _ _ (by omega)];omega);intro v w2 hv hb2 ho2;simp[go_sem]at hv;subst hv))
   go_roundw
   case rel=>
    rw[QaQ _ _ _ _ (by omega) (by omega) (by rw[QcV (a+b) k hlt,lim,lim,lim,←QEm (a+b),←S0.out])]at hb2
    exact⟨k+1,by omega,by go_num,by rw[←S1.out];rfl,hb2,h2.drew.only ho2 (by omega),h3.drew.only ho2 (by omega),(L.trans (Qab _)).only ho2 (QCN _)⟩
   case measure=>simp[intOf];omega
  ·obtain rfl:k=4:=by omega
   rw[QbT _ _ _ hlS hlA]at h1
   go_wp2_with (first
    | (refine Qbz rfl _ rfl h1 rfl ?_)
    | (go_at_call 123;(with_reducible refine (Qd3 (a+b) hsum _).mono ?_);rintro e w2 ⟨rfl,hl2⟩
       have h32:=h3.later hl2
       have L2:=L.trans hl2)
    | (refine QaE rfl rfl _ _ rfl h32 rfl rfl rfl ?_;intro w3 hb3 ho3))
   exact bodyPost_ret (QgM rfl hb3 rfl) rfl ⟨rfl,L2.only ho3 (by omega)⟩
def mcar (B x a b k:Nat):Nat:=(x*(a%B^k)+b%B^k)/B^k
theorem Qlk (B x a b:Nat):mcar B x a b 0=0:=by simp[mcar,Nat.mod_one]
theorem Qlg {B:Nat} (hB:0<B) (x a b k:Nat):(x*(a/B^k%B)+b/B^k%B+mcar B x a b k)/B=mcar B x a b (k+1):=by
 have hp:0<B^k:=QEB hB
 rw[mcar,mcar,Qb1,Qb1,QDA,←QDs]
 congr 1
 have e:x*(a%B^k+B^k*(a/B^k%B))+(b%B^k+B^k*(b/B^k%B))=(x*(a%B^k)+b%B^k)+B^k*(x*(a/B^k%B)+b/B^k%B):=by
  rw[QDR,QDR,QEK x]
  omega
 rw[e,QD9 _ _ hp,QEF]
theorem mdig {B:Nat} (hB:0<B) (x a b k:Nat):(x*(a/B^k%B)+b/B^k%B+mcar B x a b k)%B=(x*a+b)/B^k%B:=by
 have hp:0<B^k:=QEB hB
 have ea:=QDx a (B^k)
 have eb:=QDx b (B^k)
 have e:x*a+b=(x*(a%B^k)+b%B^k)+B^k*(x*(a/B^k)+b/B^k):=by
  have:x*a=x*(a%B^k)+B^k*(x*(a/B^k)):=by
   rw[QEK,←QDR,QEF,ea]
  rw[QDR]
  omega
 rw[e,QD9 _ _ hp,←mcar,QEF (mcar B x a b k),QEV,QEV (x*(a/B^k)+b/B^k),QEV (x*(a/B^k%B)),Nat.mul_mod_mod,QD4,←QEV (x*(a/B^k))]
theorem QsC {B x:Nat} (hx:x<B) (a b k:Nat):mcar B x a b k≤x:=by
 have hp:0<B^k:=QEB (by omega)
 rw[mcar]
 refine Nat.le_of_lt_succ (QDD ?_)
 have h1:=QC8 a hp
 have h2:=QC8 b hp
 have h3:x*(a%B^k)≤x*(B^k-1):=QEe x (by omega)
 rw[Nat.mul_sub,QEq]at h3
 have h4:x≤x*B^k:=QDK x hp
 rw[Nat.succ_eq_add_one,QDR,QEq,QDz (B^k)]
 omega
theorem QtV (a b:Nat) (ha:a<T256) (hb:b<T256) (S c o c2:Nat) (hS:S=38*(a*b/T256)+a*b%T256) (hc:c=S/T256) (ho:o=S%T256) (h2:c2=(o+38*c)/T256):
 c≤38∧c2≤1∧(o+38*c)%T256+38*c2<T256∧((o+38*c)%T256+38*c2)%P25=a*b%P25:=by
 have h:a*b≤(T256-1)*(T256-1):=Nat.mul_le_mul (by omega) (by omega)
 generalize a*b=X at *
 have h3:X/T256<T256:=by
  refine QDD (QDX h ?_)
  decide
 have hd:=QDx X T256
 have hm:=QC8 X (show 0<T256 by decide)
 generalize X/T256=H at *
 generalize X%T256=L at *
 unfold T256 P25 at *
 omega
def WL (n:Nat):List Value:=(dig B64 8 n).map n64
theorem Qwe (n i:Nat) (h:i<8):(WL n)[i]?=some (n64 (lim n i)):=by rw[WL,QCY,Qf7 _ _ _ _ h];rfl
theorem Qyb (a b:Nat) (ha:a<B64^4) (hb:b<B64^4):(QbP B64 (dig B64 4 a) (dig B64 4 b) 8 4).map n64=WL (a*b):=by
 have hl:=Qb4 B64 (dig B64 4 a) (dig B64 4 b) 8 4
 have hlt:=Qfe QaS (dig B64 4 a) (dig B64 4 b) 8 (QdR QaS 4 a) (QdR QaS 4 b) 4
 have hv:=Qg6 (B:=B64) (dig B64 4 a) (dig B64 4 b) 8 4 (by rw[QaL];omega) (by rw[QaL];omega)
 rw[QCT (by rw[QaL];omega),Qei,Qei,QC1 ha,QC1 hb]at hv
 have:=Qkf _ hlt
 rw[hl,hv]at this
 rw[WL,this]
theorem QzX (n i:Nat):lim n (i+4)=lim (n/T256) i:=by
 rw[lim,lim,←QdJ,QDs,←QD3,QEF]
theorem Qz1 (n i:Nat) (h:i<4):lim n i=lim (n%T256) i:=by
 rw[lim,lim,←Qdv B64 4 n i h,←Qdv B64 4 _ i h,←QdJ,QfW]
theorem Qkl (l:List Nat) (i v:Nat):(l.map n64).set i (n64 v)=(l.set i v).map n64:=by rw[QEX]
theorem Qsi (l:List Nat) (i:Nat) (h:i<l.length):(l.map n64)[i]?=some (n64 (l.getD i 0)):=by
 rw[QCY,QCK,QCH h]
 rfl
theorem QqR {n m:Nat} (h:n%T256=m%T256):EL n=EL m:=by
 rw[EL,EL,←QfW,←QfW (n:=m),QdJ,h]
theorem QvT {n m:Nat} (h:n%T256=m%T256):E n=E m:=by rw[E,E,QqR h]
theorem Qx4 (x m c:Nat) (hx:x<B64) (hm:m<B64) (hc:c<B64) (w:World):
 Calls Tryz.prog 179 #[n64 x,.int .u64 38,n64 m,n64 c] w fun e w'=>e= .returned (.tuple #[n64 ((x*38+m+c)%B64),n64 ((x*38+m+c)/B64)])∧w=w':=Qo1 x 38 m c hx (by decide) hm hc w
theorem QhP (B:Nat) (xs ys:List Nat) (n i x m:Nat) (hx:xs.getD i 0=x) (hm:ys.length=m):QbP B xs ys n (i+1)=(Qbs B x ys (QbP B xs ys n i) i m).1.set (i+m) (Qbs B x ys (QbP B xs ys n i) i m).2:=by
 subst hx
 subst hm
 rfl
theorem Qjk (B x:Nat) (ys ws:List Nat) (i j y:Nat) (hy:ys.getD j 0=y):Qbs B x ys ws i (j+1)=((Qbs B x ys ws i j).1.set (i+j) ((x*y+(Qbs B x ys ws i j).1.getD (i+j) 0+(Qbs B x ys ws i j).2)%B),
 (x*y+(Qbs B x ys ws i j).1.getD (i+j) 0+(Qbs B x ys ws i j).2)/B):=by
 subst hy
 rfl
set_option maxRecDepth 100000 in
set_option maxHeartbeats 4000000 in
theorem Qeb (a b:Nat) (ha:a<T256) (hb:b<T256) (w:World):
 Calls Tryz.prog 159 #[E a,E b] w fun e w'=>e= .returned (E (a*b%P25))∧Later w w':=by
 have HP:=hid (Qyb a b (by rw[QdJ];exact ha) (by rw[QdJ];exact hb))
 have hla:=fun i (h:i<4)=>Qdv B64 4 a i h
 have hlb:=fun i (h:i<4)=>Qdv B64 4 b i h
 have hal:=QdR QaS 4 a
 have hbl:=QdR QaS 4 b
 have hAl:=QaL B64 4 a
 have hBl:=QaL B64 4 b
 have ha0:Blk (((w.alloc (.cells (EL a).toArray 211)).alloc (.cells (EL b).toArray 211))) w.heap.size 211 (EL a):=(Blk.new _ _ _).later (Qaa _ _)
 have hb0:Blk (((w.alloc (.cells (EL a).toArray 211)).alloc (.cells (EL b).toArray 211))) (w.heap.size+1) 211 (EL b):=(Blk.new' _ _ _ (by simp))
 generalize hdA:dig B64 4 a=dA at *
 generalize hdB:dig B64 4 b=dB at *
 have HA:=hid hdA
 have HB:=hid hdB
 have HLA:=hid hla
 have HLB:=hid hlb
 have HAl:=hid hAl
 have HBl:=hid hBl
 clear hdA hdB hla hlb hAl hBl
 go_enter Tryz.func159,Tryz.ntmps159
 go_wp2
 go_loopw [12] (fun i wr=>∃k:Nat,k≤4∧i= .int .i64 k∧Blk wr w.heap.size 211 (EL a)∧Blk wr (w.heap.size+1) 211 (EL b)∧Blk wr (w.heap.size+1+1) 211 (QCC 4 (.int .u64 0))∧Blk wr (w.heap.size+1+1+1) 307 ((QbP B64 dA dB 8 k).map n64)∧Later w wr) (fun i _=>4-(intOf i).toNat)
 case atStart=>
  have L0:Later w ((w.alloc (.cells (EL a).toArray 211)).alloc (.cells (EL b).toArray 211)):=(Qaa _ _).trans (Qaa _ _)
  exact⟨0,by omega,rfl,(ha0.later (Qaa _ _)).later (Qaa _ _),(hb0.later (Qaa _ _)).later (Qaa _ _),(Blk.new' _ _ (QCC 4 (Value.int .u64 0)) (by simp)).later (Qaa _ _),Blk.new' _ _ (QCC 8 (Value.int .u64 0)) (by simp),(L0.alloc _).alloc _⟩
 case round=>
  clear ha0 hb0
  obtain⟨k,hk4,rfl,h1,h2,h3,h4,L⟩:=hrel
  by_cases hlt:k<4
  ·have hpl:=Qb4 B64 dA dB 8 k
   have hpt:=Qfe QaS dA dB 8 hal hbl k
   have da:=h1.cellD k (QcV a k hlt)
   have HS:=hid (QhP B64 dA dB 8 k (lim a k) 4 (HLA.out k hlt) HBl.out)
   generalize QbP B64 dA dB 8 k=ws at *
   have HPL:=hid hpl
   clear hpl
   have hkb:decide ((k:Int)<4)=true:=by simp;omega
   go_wp2
   go_loopw [7,15] (fun c i wr=>∃j:Nat,j≤4∧i= .int .i64 j∧c=n64 (Qbs B64 (lim a k) dB ws k j).2∧Blk wr w.heap.size 211 (EL a)∧Blk wr (w.heap.size+1) 211 (EL b)∧Blk wr (w.heap.size+1+1) 211 (QCC 4 (.int .u64 0))∧Blk wr (w.heap.size+1+1+1) 307 ((Qbs B64 (lim a k) dB ws k j).1.map n64)∧Later w wr) (fun _ i _=>4-(intOf i).toNat)
   case atStart=>exact⟨0,by omega,rfl,rfl,h1,h2,h3,h4,L⟩
   case round=>
    clear h1 h2 h3 h4 L da
    obtain⟨j,hj4,rfl,rfl,h1,h2,h3,h4,L⟩:=hrel
    have hrl:=QcO B64 (lim a k) dB ws k j
    obtain⟨hrt,hct⟩:=QhB (B:=B64) (lim a k) dB ws k (QC8 _ QaS) hbl hpt j
    by_cases hlj:j<4
    ·have da:=h1.cellD k (QcV a k hlt)
     have db:=h2.cellD j (QcV b j hlj)
     have dw:=h4.cellD (k+j) (Qsi _ _ (by rw[hrl,HPL.out];omega))
     have hwl:=QiM QaS hrt (k+j)
     have HR:=hid (Qjk B64 (lim a k) dB ws k j (lim b j) (HLB.out j hlj))
     generalize (Qbs B64 (lim a k) dB ws k j).2=c at *
     generalize (Qbs B64 (lim a k) dB ws k j).1.getD (k+j) 0=v at *
     generalize (Qbs B64 (lim a k) dB ws k j).1=vs at *
     have HRL:=hid hrl
     clear hrl
     have hkj:IntKind.i64.wrap ((k:Int)+(j:Int))=((k+j:Nat):Int):=by rw[IntKind.wrap_i64];omega
     go_wp2_with fail
     refine Qag [([0,1,2,3,4,5,6,7,8,9,10,11,12,13,14],15)] [16,17,18,19] [20,21] (by as_aux_lemma=>kernel_rfl) (by as_aux_lemma=>kernel_rfl) (by intro _ _ d _ _ h;cases d<;>exact h) ?_
     simp only[Qai,pick,QCD,QCE,QCF,QCJ,QCI]
     repeat (go_big_quiet_step (fail))
     refine wpQuiet_nil ?_
     go_wp2_with fail
     (with_reducible refine (Qo1 (lim a k) (lim b j) v c (QC8 _ QaS) (QC8 _ QaS) hwl hct _).mono ?_)
     rintro e w2 ⟨rfl,rfl⟩
     go_wp2_with fail
     try refine⟨by first|assumption|exact Qab _|exact Qaa _ _|exact Later.refl _,?_⟩
     try simp only[Qai,pick,QCD,QCE,QCF,QCJ,QCI]
     repeat (go_big_quiet_step (fail))
     refine wpQuiet_nil ?_
     go_wp2_with (first
      | (refine Qad rfl rfl _ _ _ rfl _ _ _ _ h4.drew rfl ?hl rfl (by kernel_rfl) ?_;(case hl=>rw[QCG,HRL.out,HPL.out];omega);intro v w2 hv hb2 ho2;simp[go_sem]at hv;subst hv)
      | fail)
     go_roundw
     case rel=>
      rw[Qkl]at hb2
      exact⟨j+1,by omega,by go_num,by rw[HR.out],h1.drew.only ho2 (by omega),h2.drew.only ho2 (by omega),h3.drew.only ho2 (by omega),by rw[HR.out];exact hb2,(L.trans (Qab _)).only ho2 (by omega)⟩
     case measure=>simp[intOf];omega
    ·obtain rfl:j=4:=by omega
     generalize hc4:(Qbs B64 (lim a k) dB ws k 4).2=c at *
     generalize hv4:(Qbs B64 (lim a k) dB ws k 4).1=vs at *
     have HRL:=hid hrl
     have HC4:=hid hc4
     have HV4:=hid hv4
     clear hrl hc4 hv4
     go_wp2_with (first
      | (refine Qad rfl rfl _ _ _ rfl _ _ _ _ h4 rfl ?hl rfl (by kernel_rfl) ?_;(case hl=>rw[QCG,HRL.out,HPL.out];omega);intro v w2 hv hb2 ho2;simp[go_sem]at hv;subst hv)
      | fail)
     go_roundw
     case rel=>
      rw[Qkl]at hb2
      exact⟨k+1,by omega,by go_num,h1.only ho2 (by omega),h2.only ho2 (by omega),h3.only ho2 (by omega),by rw[HS.out];exact hb2,L.only ho2 (by omega)⟩
     case measure=>simp[intOf];omega
  ·rw[show k=4 by omega,HP.out]at h4
   have hkf:decide ((k:Int)<4)=false:=by simp;omega
   have hX:a*b/T256<T256:=by
    refine QDD (QDX (Nat.mul_le_mul (Nat.le_sub_one_of_lt ha) (Nat.le_sub_one_of_lt hb)) ?_)
    decide
   obtain⟨hm1,hm2,hm3,hm4⟩:=QtV a b ha hb _ _ _ _ rfl rfl rfl rfl
   have hlo:=fun i h=>Qz1 (a*b) i h
   have hhi:=fun i=>QzX (a*b) i
   have hlm:=QC8 (a*b) (show 0<T256 by decide)
   have HR:=hid hm4
   clear hm4
   generalize hRR:a*b%P25=R at *
   have HRR:=hid ((congrArg (· %P25) (QDz b a)).trans hRR)
   clear hRR
   generalize hXX:a*b=X at *
   clear hXX HP HA HB HLA HLB HAl HBl hal hbl ha hb
   generalize X/T256=H at *
   generalize X%T256=Lo at *
   have HLO:=hid hlo
   have HHI:=hid hhi
   clear hlo hhi
   have hSl:=Qaj (38*H+Lo)
   go_wp2_with fail
   have hn0:Blk (wr.alloc (.cells (QCC 4 (Value.int .u64 0)).toArray 211)) wr.heap.size 211 (QCC 4 (.int .u64 0)):=Blk.new _ _ _
   have hsz:=h4.lt
   go_loopw [10,44] (fun c i wx=>∃k:Nat,k≤4∧i= .int .i64 k∧c=n64 (mcar B64 38 H Lo k)∧Blk wx wr.heap.size 211 (Qby (EL (38*H+Lo)) (QCC 4 (.int .u64 0)) k)∧Blk wx (w.heap.size+1+1) 211 (QCC 4 (.int .u64 0))∧Blk wx (w.heap.size+1+1+1) 307 (WL X)∧Later w wx) (fun _ i _=>4-(intOf i).toNat)
   case atStart=>exact⟨0,by omega,rfl,by rw[Qlk];rfl,by rw[Qbm];exact hn0,h3.later (Qaa _ _),h4.later (Qaa _ _),L.trans (Qaa _ _)⟩
   case round=>
    clear h1 h2 h3 h4 L hn0
    obtain⟨k,hk4,rfl,rfl,h1,h3,h4,L⟩:=hrel
    by_cases hlt:k<4
    ·have hc:=QsC (show 38<B64 by decide) H Lo k
     have S0:=hid (mdig QaS 38 H Lo k)
     have S1:=hid (Qlg QaS 38 H Lo k)
     have d0:=h4.cellD k (Qwe X k (by omega))
     have d1:=h4.cellD (k+4) (Qwe X (k+4) (by omega))
     rw[HLO.out k hlt]at d0
     rw[HHI.out k]at d1
     generalize mcar B64 38 H Lo k=c at *
     have hkj:IntKind.i64.wrap ((k:Int)+4)=((k+4:Nat):Int):=by rw[IntKind.wrap_i64];omega
     go_wp2_with fail
     refine Qag [([0,1,2,3,4,5,6,7,8],9)] [10,11,12,13] [14,15] (by as_aux_lemma=>kernel_rfl) (by as_aux_lemma=>kernel_rfl) (by intro _ _ d _ _ h;cases d<;>exact h) ?_
     simp only[Qai,pick,QCD,QCE,QCF,QCJ,QCI]
     repeat (go_big_quiet_step (fail))
     refine wpQuiet_nil ?_
     go_wp2_with fail
     (with_reducible refine (Qx4 (lim H k) (lim Lo k) c (QC8 _ QaS) (QC8 _ QaS) (QDX hc (by decide)) _).mono ?_)
     rintro e w2 ⟨rfl,rfl⟩
     go_wp2_with fail
     try refine⟨by first|assumption|exact Qab _|exact Qaa _ _|exact Later.refl _,?_⟩
     try simp only[Qai,pick,QCD,QCE,QCF,QCJ,QCI]
     repeat (go_big_quiet_step (fail))
     refine wpQuiet_nil ?_
     go_wp2_with (first
      | (refine Qad rfl rfl _ _ _ rfl _ _ _ _ h1.drew rfl ?hl rfl (by kernel_rfl) ?_;(case hl=>rw[Qau _ _ _ (by rw[hSl];rfl)];exact hlt);intro v w2 hv hb2 ho2;simp[go_sem]at hv;subst hv)
      | fail)
     go_roundw
     case rel=>
      have e0:=S0.out
      have e1:=S1.out
      rw[QDz 38]at e0 e1
      rw[QaQ _ _ _ _ (by rw[hSl];rfl) hlt (by rw[QcV _ k hlt,lim,lim,lim,←e0])]at hb2
      exact⟨k+1,by omega,by go_num,by rw[←e1];rfl,hb2,h3.drew.only ho2 (by omega),h4.drew.only ho2 (by omega),(L.trans (Qab _)).only ho2 (by omega)⟩
     case measure=>simp[intOf];omega
    ·obtain rfl:k=4:=by omega
     have hc4:mcar B64 38 H Lo 4=(38*H+Lo)/T256:=by rw[mcar,QdJ,QC1 hX,QC1 hlm]
     rw[QbT _ _ _ hSl rfl]at h1
     have HC4:=hid hc4
     clear hc4
     generalize hS:38*H+Lo=S at *
     have e2:(S%B64^4+38*(S/T256))/B64^4=(S%T256+38*(S/T256))/T256:=by rw[QdJ]
     have HE:=hid e2
     clear e2
     have hp1:=Qgf S (38*(S/T256)) (by unfold B64;omega)
     rw[HE.out]at hp1
     generalize hcc:(S%T256+38*(S/T256))/T256=c2 at *
     have hp2:=Qgf (S+38*(S/T256)) (38*c2) (by unfold B64;omega)
     have hEq:E (S+38*(S/T256)+38*c2)=E ((S%T256+38*(S/T256))%T256+38*c2):=QvT (by unfold T256;omega)
     have hn:=Qd3 _ hm3
     rw[HR.out]at hn
     have HQ:=hid hEq
     have HN:=hid hn
     have HP1:=hid hp1
     have HP2:=hid hp2
     clear hEq hn hp1 hp2
     generalize (S%T256+38*(S/T256))%T256+38*c2=fin at *
     generalize hcd:S/T256=c1 at *
     have hcd':n64 (mcar B64 38 H Lo 4)=n64 c1:=by rw[HC4.out]
     generalize mcar B64 38 H Lo 4=c0 at *
     obtain rfl:c0=c1:=HC4.out
     clear hcd' HC4 HE
     go_wp2_with (first
      | (refine Qbz rfl _ rfl h1 rfl ?_)
      | (go_at_call 154;(with_reducible refine (HP1.out _).mono ?_);rintro e w2 ⟨rfl,hl2⟩
         have h12:=h1.later hl2
         have h32:=h3.later hl2
         have L2:=L.trans hl2
         clear HP1)
      | (refine QaE rfl rfl _ _ rfl h12 rfl rfl (Qaj _) ?_;intro w3 hb3 ho3
         have h33:=h32.only ho3 (by omega)
         have L3:=L2.only ho3 (by omega)
         clear h32 h12 L2)
      | (refine Qbz rfl _ rfl hb3 rfl ?_)
      | (go_at_call 154;(with_reducible refine (HP2.out _).mono ?_);rintro e w4 ⟨rfl,hl4⟩
         have h14:=hb3.later hl4
         have h34:=h33.later hl4
         have L4:=L3.trans hl4
         rw[HQ.out]
         clear HP2)
      | (refine QaE rfl rfl _ _ rfl h14 rfl rfl (Qaj _) ?_;intro w5 hb5 ho5
         have h35:=h34.only ho5 (by omega)
         have L5:=L4.only ho5 (by omega)
         clear h34 h14 L4)
      | (refine Qbz rfl _ rfl hb5 rfl ?_)
      | (go_at_call 123;(with_reducible refine (HN.out _).mono ?_);rintro e w6 ⟨rfl,hl6⟩
         have h36:=h35.later hl6
         have L6:=L5.trans hl6)
      | (refine QaE rfl rfl _ _ rfl h36 rfl rfl rfl ?_;intro w7 hb7 ho7)
      | fail)
     exact bodyPost_ret (QgM rfl hb7 rfl) rfl ⟨by rw[QDz a b];exact congrArg (fun t=>Ending.returned (E t)) HRR.out.symm,L6.only ho7 (by omega)⟩
theorem Qt6 {n:Nat} (h:n<B64):EL n=[n64 n,.int .u64 0,.int .u64 0,.int .u64 0]:=by
 have e:∀k,0<k→n/B64^k%B64=0:=fun k hk=>Qlf h k hk
 have e1:dig B64 4 n=[n/B64^0%B64,n/B64^1%B64,n/B64^2%B64,n/B64^3%B64]:=by
  rw[QfD,QfD,QfD,QfD]
  rfl
 rw[EL,e1,e 1 (by omega),e 2 (by omega),e 3 (by omega),QES,Nat.div_one,QC1 h]
 rfl
@[go_sem] theorem QAc (n:Nat):(n%P25<T256)=True:=eq_true (QDB (QC8 _ Qbi) (by decide))
@[go_sem] theorem Qy7 (n:Nat):(n%P25<P25)=True:=eq_true (QC8 _ Qbi)
def ofs (l:List Nat):List UInt64:=l.map QC4
theorem Qjt (n:Nat):EL n=(ofs (dig B64 4 n)).map W64:=by rw[EL,ofs,List.map_map];rfl
theorem Qxz {l m:List Nat} (hl:∀x∈l,x<B64) (hm:∀x∈m,x<B64) (h:ofs l=ofs m):l=m:=by
 have e:∀l:List Nat,(∀ x∈l,x<B64)→(ofs l).map UInt64.toNat=l:=by
  intro l hl
  rw[ofs,List.map_map]
  conv=>rhs;rw[←List.map_id l]
  apply QEM
  intro x hx
  exact tn64 (hl x hx)
 rw[←e l hl,←e m hm,h]
theorem QnB {x y:Nat} (hx:x<T256) (hy:y<T256):(ofs (dig B64 4 x)==ofs (dig B64 4 y))=(x==y):=by
 rw[QDv,beq_iff_eq,beq_iff_eq]
 refine⟨fun h=>?_,fun h=>by rw[h]⟩
 have:=Qxz (QdR QaS 4 x) (QdR QaS 4 y) h
 exact QrI (k:=4) (B:=B64) (by rw[QdJ];exact hx) (by rw[QdJ];exact hy) this
theorem QqF:(Tryz.prog.info? 23).map (·.size)=some 1:=by kernel_rfl
theorem QBo:Tryz.prog.eqGuardType Tryz.prog.depth 211=false:=by kernel_rfl
@[go_sem high] theorem Qz6 (op:BinOp) (x y:Operand) (xs ys:Array Value) (w:World):(eqGuard op 211 x y (.agg xs) (.agg ys)).run Tryz.prog w= .ok () w:=run_eqGuard_agg w op _ x y xs ys QBo
@[go_sem high] theorem QzI (x y:Nat) (hx:x<T256) (hy:y<T256) (w:World):(binOp .eql 211 (E x) (E y)).run Tryz.prog w= .ok (.bool (x==y)) w:=by
  rw[run_eql_struct,Qjt,Qjt,Qbf w 0 W64 9998 211 23 4 Tryz.underlying211 QqF Tryz.underlying23 rfl (QiE _ _ Tryz.underlying23) _ _ (by rw[ofs,QCG,QaL]) (by rw[ofs,QCG,QaL]),QnB hx hy]
  rfl
@[go_sem high] theorem QzU (x y:Nat) (hx:x<T256) (hy:y<T256) (w:World):(binOp .neq 211 (E x) (E y)).run Tryz.prog w= .ok (.bool (x != y)) w:=by
  rw[run_neq_struct,Qjt,Qjt,Qbf w 0 W64 9998 211 23 4 Tryz.underlying211 QqF Tryz.underlying23 rfl (QiE _ _ Tryz.underlying23) _ _ (by rw[ofs,QCG,QaL]) (by rw[ofs,QCG,QaL]),QnB hx hy]
  rfl
theorem QBB:Tryz.prog.eqGuardType Tryz.prog.depth 210=false:=by kernel_rfl
@[go_sem high] theorem QyQ (op:BinOp) (x y:Operand) (xs ys:Array Value) (w:World):(eqGuard op 210 x y (.agg xs) (.agg ys)).run Tryz.prog w= .ok () w:=run_eqGuard_agg w op _ x y xs ys QBB
@[go_sem high] theorem Qzm (x y:Nat) (hx:x<T256) (hy:y<T256) (w:World):(binOp .eql 210 (E x) (E y)).run Tryz.prog w= .ok (.bool (x==y)) w:=by
  rw[run_eql_struct,Qjt,Qjt,Qbf w 0 W64 9998 210 23 4 Tryz.underlying210 QqF Tryz.underlying23 rfl (QiE _ _ Tryz.underlying23) _ _ (by rw[ofs,QCG,QaL]) (by rw[ofs,QCG,QaL]),QnB hx hy]
  rfl
set_option maxHeartbeats 1000000 in
theorem Qtv (n:Nat) (hn:n<B64) (w:World):
 Calls Tryz.prog 93 #[n64 n] w fun e w'=>e= .returned (E n)∧Later w w':=by
 have hs:=hid (Qt6 hn)
 go_enter Tryz.func93,Tryz.ntmps93
 go_wp2_with (first
  | (refine Qal rfl 211 _ rfl [n64 n,.int .u64 0,.int .u64 0,.int .u64 0] ?hb ?_;(case hb=>kernel_rfl);rw[←hs.out])
  | (refine QaE rfl rfl _ _ rfl (Blk.new w _ (QCC 4 (.int .u64 0))) rfl rfl rfl ?_;intro w3 hb3 ho3))
 exact bodyPost_ret (QgM rfl hb3 rfl) rfl ⟨rfl,(Qaa _ _).only ho3 (by omega)⟩
set_option maxHeartbeats 1000000 in
theorem QgR (n:Nat) (hn:n<T256) (w:World):
 Calls Tryz.prog 157 #[E n] w fun e w'=>e= .returned (E (n*n%P25))∧Later w w':=by
 have hb:Blk ((w.alloc (.cells (EL n).toArray 211)).alloc (.cells (QCC 4 (.int .u64 0)).toArray 211)) w.heap.size 211 (EL n):=(Blk.new _ _ _).later (Qaa _ _)
 have hr:Blk ((w.alloc (.cells (EL n).toArray 211)).alloc (.cells (QCC 4 (.int .u64 0)).toArray 211)) (w.heap.size+1) 211 (QCC 4 (.int .u64 0)):=Blk.new' _ _ _ (by simp)
 go_enter Tryz.func157,Tryz.ntmps157
 go_wp2_with (first
  | (refine Qbz rfl _ rfl hb rfl ?_)
  | (go_at_call 159;(with_reducible refine (Qeb n n hn hn _).mono ?_);rintro e w2 ⟨rfl,hl2⟩
     have hr2:=hr.later hl2
     have L2:Later w w2:=((Qaa _ _).trans (Qaa _ _)).trans hl2)
  | (refine QaE rfl rfl _ _ rfl hr2 rfl rfl rfl ?_;intro w3 hb3 ho3)
  | fail)
 exact bodyPost_ret (QgM rfl hb3 rfl) rfl ⟨rfl,L2.only ho3 (by omega)⟩
theorem QpZ (x y b:Nat) (hx:x<B64) (hy:y<B64) (hb:b≤1) (w:World):
 (callFunc 178 #[n64 x,n64 y,n64 b]).run Tryz.prog w= .ok (.value (.tuple #[n64 ((x+B64-y-b)%B64),n64 (if x<y+b then 1 else 0)])) w:=by
 rw[QeU hx,QeU hy,QeU (show b<B64 by unfold B64;omega),run_callFunc_extern Tryz.func178 (by kernel_rfl) (by kernel_rfl) (by kernel_rfl) (e:=sub64Entry) (by kernel_rfl),run_sub64 _ _ _ hb]
 rw[QeU (QC8 _ QaS),QeU (show (if x<y+b then 1 else 0)<B64 by split<;>decide)]
 rfl
set_option maxHeartbeats 2000000 in
theorem QuY (n m:Nat) (hn:n<T256) (hm:m<T256) (w:World):
 Calls Tryz.prog 156 #[E n,E m] w fun e w'=>e= .returned (E ((n+(P25-m%P25))%P25))∧Later w w':=by
 have hm1:m%P25<P25:=QC8 _ Qbi
 have hn1:n%P25<P25:=QC8 _ Qbi
 have hE:=hid (QvT (n:=P25+B64^4-m%P25) (m:=P25-m%P25) (by rw[QdJ];unfold T256 P25 at *;omega))
 have hadd:=hid (Qoj (n%P25) (P25-m%P25) (by unfold T256 P25 at *;omega))
 have hb0:Blk ((w.alloc (.cells (EL n).toArray 211)).alloc (.cells (EL m).toArray 211)) w.heap.size 211 (EL n):=(Blk.new _ _ _).later (Qaa _ _)
 have hc0:Blk ((w.alloc (.cells (EL n).toArray 211)).alloc (.cells (EL m).toArray 211)) (w.heap.size+1) 211 (EL m):=Blk.new' _ _ _ (by simp)
 have L0:Later w ((w.alloc (.cells (EL n).toArray 211)).alloc (.cells (EL m).toArray 211)):=(Qaa _ _).trans (Qaa _ _)
 go_enter Tryz.func156,Tryz.ntmps156
 go_wp2_with (first
  | (refine Qal rfl 211 _ rfl (EL P25) ?hb ?_;(case hb=>kernel_rfl))
  | (refine QaE (g:=w.heap.size+1+1+1) rfl rfl _ _ rfl (Blk.new' _ _ (QCC 4 (.int .u64 0)) (by simp)) rfl rfl rfl ?_;intro w3 hb3 ho3
     have hn3:Blk w3 w.heap.size 211 (EL n):=((hb0.later (Qaa _ _)).later (Qaa _ _)).only ho3 (by omega)
     have hm3:Blk w3 (w.heap.size+1) 211 (EL m):=((hc0.later (Qaa _ _)).later (Qaa _ _)).only ho3 (by omega)
     have hr3:Blk w3 (w.heap.size+1+1) 211 (QCC 4 (.int .u64 0)):=((Blk.new' _ _ (QCC 4 (Value.int .u64 0)) (by simp)).later (Qaa _ _)).only ho3 (by omega)
     have L3:Later w w3:=((L0.alloc _).alloc _).only ho3 (by omega)
     clear hb0 hc0 L0 ho3)
  | (refine Qbz rfl _ rfl hm3 rfl ?_)
  | (go_at_call 123;(with_reducible refine (Qd3 m hm _).mono ?_);rintro e w4 ⟨rfl,hl4⟩)
  | (refine QaE rfl rfl _ _ rfl (hm3.later hl4) rfl rfl (Qaj _) ?_;intro w5 hb5 ho5
     have hn5:=(hn3.later hl4).only ho5 (by omega)
     have hr5:=(hr3.later hl4).only ho5 (by omega)
     have hp5:=(hb3.later hl4).only ho5 (by omega)
     have L5:=(L3.trans hl4).only ho5 (by omega)
     clear hn3 hm3 hr3 hb3 L3 hl4 ho5)
  | fail)
 have hlS:=Qaj (P25+B64^4-m%P25)
 have hlA:=Qaj P25
 have hm1':m%P25<B64^4:=QDB hm1 (by decide)
 have hbl:=hb5.lt
 generalize hMM:m%P25=M at *
 have HM:=hid hMM
 clear hMM
 go_loopw [6,11] (fun c i wr=>∃k:Nat,k≤4∧i= .int .i64 k∧c=n64 (owed B64 P25 M k)∧Blk wr (w.heap.size+1+1+1) 211 (Qby (EL (P25+B64^4-M)) (EL P25) k)∧Blk wr (w.heap.size+1) 211 (EL M)∧Blk wr w.heap.size 211 (EL n)∧Blk wr (w.heap.size+1+1) 211 (QCC 4 (.int .u64 0))∧Later w wr) (fun _ i _=>4-(intOf i).toNat)
 case atStart=>exact⟨0,by omega,rfl,by rw[Qlx];rfl,by rw[Qbm];exact hp5,hb5,hn5,hr5,L5⟩
 case round=>
  clear hb5 hp5 hn5 hr5 L5
  obtain⟨k,hk4,rfl,rfl,h1,h2,h0,h3,L⟩:=hrel
  by_cases hlt:k<4
  ·have hc:=QkQ B64 P25 M k
   have S0:=hid (Qn1 QaS P25 M k 4 hlt hm1')
   have S1:=hid (Qmf QaS P25 M k)
   have d0:=h1.cellD k (u:=n64 (lim P25 k)) (by rw[Qeo _ _ _ _ (by omega) (QCN _) (by omega)];exact QcV P25 k hlt)
   have d1:=h2.cellD k (QcV M k hlt)
   generalize owed B64 P25 M k=c at *
   have hsub:∀w,(callFunc 178 #[n64 (lim P25 k),n64 (lim M k),n64 c]).run Tryz.prog w= .ok (.value (.tuple #[n64 ((lim P25 k+B64-lim M k-c)%B64),n64 (if lim P25 k<lim M k+c then 1 else 0)])) w:=fun w=>QpZ _ _ _ (QC8 _ QaS) (QC8 _ QaS) hc w
   obtain⟨X,hX⟩:∃X,X=(lim P25 k+B64-lim M k-c)%B64:=⟨_,rfl⟩
   obtain⟨Y,hY⟩:∃Y,Y=(if lim P25 k<lim M k+c then 1 else 0):=⟨_,rfl⟩
   rw[←hX,←hY]at hsub
   have HX:=hid hX
   have HY:=hid hY
   clear hX hY
   go_wp2_with fail
   refine Qag [([0,1,2,3,4,5,6,7],8)] [9,10,11,12] [13,14] (by as_aux_lemma=>kernel_rfl) (by as_aux_lemma=>kernel_rfl) (by intro _ _ d _ _ h;cases d<;>exact h) ?_
   simp only[Qai,pick,QCD,QCE,QCF,QCJ,QCI]
   repeat (go_big_quiet_step (fail))
   refine wpQuiet_nil ?_
   go_wp2_with fail
   try refine⟨by first|assumption|exact Qab _|exact Qaa _ _|exact Later.refl _,?_⟩
   try simp only[Qai,pick,QCD,QCE,QCF,QCJ,QCI]
   repeat (go_big_quiet_step (fail))
   refine wpQuiet_nil ?_
   go_wp2_with (first
    | (refine Qad rfl rfl _ _ _ rfl _ _ _ _ h1.drew rfl ?hl rfl (by kernel_rfl) ?_;(case hl=>rw[Qau _ _ _ (by omega)];omega);intro v w2 hv hb2 ho2;simp[go_sem]at hv;subst hv)
    | fail)
   go_roundw
   case rel=>
    rw[QaQ _ _ _ _ (by omega) (by omega) (by rw[QcV _ k hlt,HX.out,lim,lim,lim,S0.out])]at hb2
    exact⟨k+1,by omega,by go_num,by rw[S1.out,HY.out];rfl,hb2,h2.drew.only ho2 (by omega),h0.drew.only ho2 (by omega),h3.drew.only ho2 (by omega),(L.trans (Qab _)).only ho2 (by omega)⟩
   case measure=>simp[intOf];omega
  ·rw[show k=4 by omega,QbT _ _ _ hlS hlA]at h1
   have h1':Blk wr (w.heap.size+1+1+1) 211 (EL (P25-M)):=by
    have e:EL (P25+B64^4-M)=EL (P25-M):=by rw[QqR];rw[QdJ];unfold T256 P25 at *;omega
    rwa [e]at h1
   have hkf:decide ((k:Int)<4)=false:=by simp;omega
   clear h1 hE
   go_wp2_with fail
   refine Qag [([0,2],1)] [] [3,4] (by as_aux_lemma=>kernel_rfl) (by as_aux_lemma=>kernel_rfl) (by intro _ _ d _ _ h;cases d<;>exact h) ?_
   simp only[Qai,pick,QCD,QCE,QCF,QCJ,QCI]
   repeat (first|go_big_quiet_skip|(go_big_quiet_want;(first|refine QcG _ rfl h0.drew rfl ?_|refine QcG _ rfl h1'.drew rfl ?_);simp only[Act.put,QCL,QCQ,QCP];go_big_quiet_on)|(go_big_quiet_step (fail)))
   refine wpQuiet_nil ?_
   go_wp2_with fail
   (with_reducible refine (Qd3 n hn _).mono ?_);rintro e w2 ⟨rfl,hl2⟩
   go_wp2_with fail
   try refine⟨by first|assumption|exact Qab _|exact Qaa _ _|exact Later.refl _,?_⟩
   try simp only[Qai,pick,QCD,QCE,QCF,QCJ,QCI]
   repeat (go_big_quiet_step (fail))
   refine wpQuiet_nil ?_
   go_wp2_with fail
   (with_reducible refine (hadd.out _).mono ?_);rintro e w3 ⟨rfl,hl3⟩
   have h33:=((h3.drew.later hl2)).later hl3
   have L3:=((L.trans (Qab _)).trans hl2).trans hl3
   go_wp2_with (refine QaE rfl rfl _ _ rfl h33 rfl rfl rfl ?_;intro w4 hb4 ho4)
   exact bodyPost_ret (QgM rfl hb4 rfl) rfl ⟨by rw[HM.out],L3.only ho4 (by omega)⟩
def lem (n j:Nat):Nat:=n/B32^j%B32
@[go_sem] theorem QCA (n i:Nat):(lem n i<B32)=True:=eq_true (QC8 _ Qbb)
@[go_sem] theorem QAt (n i:Nat):(lem n i<B64)=True:=eq_true (QDB (QC8 _ Qbb) (by decide))
def NL (n:Nat):List Value:=(dig B32 8 n).map n32
abbrev NN (n:Nat):Value:=.agg (NL n).toArray
theorem Qav (n:Nat):(NL n).length=8:=by rw[NL,QCG,QaL]
theorem QdX (n i:Nat) (h:i<8):(NL n)[i]?=some (n32 (lem n i)):=by rw[NL,QCY,Qf7 _ _ _ _ h];rfl
@[go_sem] theorem QCh (n i:Nat) (h:i<(NL n).length):(NL n)[i]=n32 (lem n i):=by
  have:=QdX n i (by rw[Qav]at h;exact h)
  rw[QCH h]at this
  exact Option.some.inj this
theorem QzR (n:Nat):∀v∈NL n,v.oneCell'=true:=Qyt _
def VL (n:Nat):List Value:=(dig B32 17 n).map n64
abbrev VV (n:Nat):Value:=.agg (VL n).toArray
theorem Qdj (n:Nat):(VL n).length=17:=by rw[VL,QCG,QaL]
theorem Qe5 (n i:Nat) (h:i<17):(VL n)[i]?=some (n64 (lem n i)):=by rw[VL,QCY,Qf7 _ _ _ _ h];rfl
@[go_sem] theorem QzL (n i:Nat) (h:i<(VL n).length):(VL n)[i]=n64 (lem n i):=by
  have:=Qe5 n i (by rw[Qdj]at h;exact h)
  rw[QCH h]at this
  exact Option.some.inj this
theorem QzT (n:Nat):∀v∈VL n,v.oneCell'=true:=QqJ _
theorem QeE:B32^8=T256:=by decide
theorem Qni {n m:Nat} (h:n%T256=m%T256):NL n=NL m:=by
 rw[NL,NL,←QfW,←QfW (n:=m),QeE,h]
theorem Qj3:(Tryz.prog.info? 225).map (·.size)=some 8:=by kernel_rfl
theorem QzW:(Tryz.prog.info? 258).map (·.size)=some 17:=by kernel_rfl
section
variable {ops:Array Oper} {rest:List Oper} {o:Oper} {a:Act} {w:World} {Q:Exit→Act→World→Prop}
theorem QaT (hgd:Region.wanted o (yielded ops a.tmps)=true) (x:Operand) (ho:o.op= .load 225 x) {g:Nat} {t:TypeId} {n:Nat} (hb:Blk w g t (NL n)) (hx:a.eval x= .pointer (some ⟨g,0,none⟩))
 (h:wpList Tryz.prog ops Q rest (a.put o.dst (NN n)) w):wpList Tryz.prog ops Q (o :: rest) a w:=
 Qbp hgd _ x ho g t _ hb hx _ Tryz.underlying225 rfl 8 Qj3 (Qav n) h
theorem Qar (hgd:o.guard=none) (hd:o.dst=none) (x y:Operand) (ho:o.op= .store 225 x y) {g:Nat} {t:TypeId} {l:List Value} {n:Nat} (hg:Blk w g t l) (hx:a.eval x= .pointer (some ⟨g,0,none⟩)) (hy:a.eval y=NN n) (hl:l.length=8)
 (h:∀w',Blk w' g t (NL n)→Only g w w'→wpList Tryz.prog ops Q rest a w'):wpList Tryz.prog ops Q (o :: rest) a w:=
 QaJ hgd hd _ x y ho g t l _ hg hx hy 8 Qj3 (Qav n) hl (QzR n) h
theorem Qkh {fn:Func} {p:Tmp} (hf:fn.results= #[.cell p 225]) {tmps:Array Value} {g:Nat} {t:TypeId} {n:Nat} (hg:Blk w g t (NL n)) (hp:tmps.getD p undef= .pointer (some ⟨g,0,none⟩)):
 (results fn tmps).run Tryz.prog w= .ok (NN n) w:=QaP hf tmps w g t _ _ hg hp Tryz.underlying225 rfl (by rw[Qav];exact Qj3)
theorem Qbt {K:Act→Prop} (x:Operand) (ho:o.op= .load 225 x) {w0:World} {g:Nat} {t:TypeId} {n:Nat} (hb:Blk w0 g t (NL n)) (hx:a.eval x= .pointer (some ⟨g,0,none⟩)) (h:K (a.put o.dst (NN n))):
 o.quiet Tryz.prog a (fun w'=>∃x,w'=grow w0 x) K:=
 Qa3 _ x ho g 0 (NL n) (fun w' hw j v hv=>by obtain⟨y,rfl⟩:=hw;rw[QC6];exact (hb.later ⟨y,rfl⟩).cellD j hv) hx _ Tryz.underlying225 rfl (by rw[Qav];exact Qj3) h
theorem Qk2 (hgd:Region.wanted o (yielded ops a.tmps)=true) (x:Operand) (ho:o.op= .load 258 x) {g:Nat} {t:TypeId} {n:Nat} (hb:Blk w g t (VL n)) (hx:a.eval x= .pointer (some ⟨g,0,none⟩))
 (h:wpList Tryz.prog ops Q rest (a.put o.dst (VV n)) w):wpList Tryz.prog ops Q (o :: rest) a w:=
 Qbp hgd _ x ho g t _ hb hx _ Tryz.underlying258 rfl 17 QzW (Qdj n) h
theorem Qxs (hgd:o.guard=none) (hd:o.dst=none) (x y:Operand) (ho:o.op= .store 258 x y) {g:Nat} {t:TypeId} {l:List Value} {n:Nat} (hg:Blk w g t l) (hx:a.eval x= .pointer (some ⟨g,0,none⟩)) (hy:a.eval y=VV n) (hl:l.length=17)
 (h:∀w',Blk w' g t (VL n)→Only g w w'→wpList Tryz.prog ops Q rest a w'):wpList Tryz.prog ops Q (o :: rest) a w:=
 QaJ hgd hd _ x y ho g t l _ hg hx hy 17 QzW (Qdj n) hl (QzT n) h
end
@[go_sem] theorem QCk (T:TypeId) (x:Nat) (yk:IntKind) (k:Int) (h0:0≤k):binOp .shl T (n64 x) (.int yk k)=pure (n64 (x*2^k.toNat)):=by
  rw[n64,QkS _ _ _ _ h0,QhA]
  rw[Qjb]
  show (BitVec.toNat _)=_
  rw[QEy,QEI]
  show (QC4 x).toNat*_%2^64=_
  rw[QDb,Nat.mod_mul_mod]
  rfl
set_option maxHeartbeats 1000000 in
theorem Qsp (w:World):
 Calls Tryz.prog 167 #[] w fun e w'=>e= .returned (NN P25)∧Later w w':=by
 go_enter Tryz.func167,Tryz.ntmps167
 go_wp2_with (first
  | (refine Qal rfl 225 _ rfl (NL P25) ?hb ?_;(case hb=>kernel_rfl))
  | (refine Qar rfl rfl _ _ rfl (Blk.new w _ (QCC 8 (.int .u32 0))) rfl rfl rfl ?_;intro w3 hb3 ho3))
 exact bodyPost_ret (Qkh rfl hb3 rfl) rfl ⟨rfl,(Qaa _ _).only ho3 (by omega)⟩
set_option maxHeartbeats 1000000 in
theorem Qiv (a b:Nat) (hb:b<T256) (w:World):
 Calls Tryz.prog 138 #[NN a,NN b] w fun e w'=>e= .returned (.tuple #[NN (a+T256-b),.bool (owed B32 a b 8==1)])∧Later w w':=by
 have hlS:=Qav (a+T256-b)
 have hlA:=Qav a
 go_enter Tryz.func138,Tryz.ntmps138
 go_wp2
 go_loopw [7,8] (fun c i wr=>∃k:Nat,k≤8∧i= .int .i64 k∧c=n64 (owed B32 a b k)∧Blk wr w.heap.size 225 (NL a)∧Blk wr (w.heap.size+1) 225 (NL b)∧Blk wr (w.heap.size+1+1) 225 (QCC 8 (.int .u32 0))∧Blk wr (w.heap.size+1+1+1) 225 (Qby (NL (a+T256-b)) (QCC 8 (.int .u32 0)) k)∧Later w wr) (fun _ i _=>8-(intOf i).toNat)
 case atStart=>exact⟨0,by omega,rfl,by rw[Qlx];rfl,(((Blk.new _ _ _).later (Qaa _ _)).later (Qaa _ _)).later (Qaa _ _),((Blk.new' _ _ (NL b) (by simp)).later (Qaa _ _)).later (Qaa _ _),(Blk.new' _ _ (QCC 8 (Value.int .u32 0)) (by simp)).later (Qaa _ _),by rw[Qbm];exact Blk.new' _ _ (QCC 8 (Value.int .u32 0)) (by simp),(((Qaa _ _).trans (Qaa _ _)).trans (Qaa _ _)).trans (Qaa _ _)⟩
 case round=>
  obtain⟨k,hk4,rfl,rfl,h1,h2,h3,h4,L⟩:=hrel
  by_cases hlt:k<8
  ·have d0:=h1.cellD k (QdX a _ (by omega))
   have d1:=h2.cellD k (QdX b _ (by omega))
   have hc:=QkQ B32 a b k
   have S0:=hid (Qn1 Qbb a b k 8 hlt (by rw[QeE];exact hb))
   rw[QeE]at S0
   have S1:=hid (Qmf Qbb a b k)
   have hx:lem a k<B32:=QC8 _ Qbb
   have hy:lem b k<B32:=QC8 _ Qbb
   change Hid (_=if lem a k<lem b k+owed B32 a b k then 1 else 0)at S1
   change Hid ((lem a k+B32-lem b k-owed B32 a b k)%B32=lem (a+T256-b) k)at S0
   generalize owed B32 a b k=c at *
   have hyc:(lem b k+c<B64)=True:=eq_true (by unfold B64;unfold B32 at hy;omega)
   rcases QDF (lem a k) (lem b k+c) with hl|hl
   ·have hdl:decide (lem a k<lem b k+c)=true:=by simpa using hl
    have hs:∀w,(binOp .sub 23 (n64 (lem a k+4294967296)) (n64 (lem b k+c))).run Tryz.prog w= .ok (n64 (lem a k+4294967296-(lem b k+c))) w:=fun w=>by
     rw[Qti _ _ _ (by unfold B64;unfold B32 at *;omega) (by unfold B32 at *;omega)]
     rfl
    have HD:=hid (show n32 (lem a k+4294967296-(lem b k+c))=n32 (lem (a+T256-b) k) by rw[←S0.out];apply Qwy;rw[QD4];congr 1;unfold B32;omega)
    have HC:=hid (show owed B32 a b (k+1)=1 by rw[S1.out,if_pos hl])
    go_wp2_with (first
     | (refine Qad rfl rfl _ _ _ rfl _ _ _ _ h4 rfl ?hl rfl (by kernel_rfl) ?_;(case hl=>rw[Qau _ _ _ (by rw[hlS];rfl)];simp;omega);intro v w6 hv hb6 ho6;simp[go_sem]at hv;subst hv))
    go_roundw
    case rel=>
     rw[HD.out,QaQ _ _ _ _ (by rw[hlS];rfl) (by simp;omega) (QdX _ _ (by omega))]at hb6
     exact⟨k+1,by omega,by go_num,by rw[HC.out];rfl,h1.only ho6 (by omega),h2.only ho6 (by omega),h3.only ho6 (by omega),hb6,L.only ho6 (by omega)⟩
    case measure=>simp[intOf];omega
   ·have hdl:decide (lem a k<lem b k+c)=false:=by simpa using hl
    have hs:∀w,(binOp .sub 23 (n64 (lem a k)) (n64 (lem b k+c))).run Tryz.prog w= .ok (n64 (lem a k-(lem b k+c))) w:=fun w=>by
     rw[Qti _ _ _ (by unfold B64;unfold B32 at *;omega) hl]
     rfl
    have HD:=hid (show n32 (lem a k-(lem b k+c))=n32 (lem (a+T256-b) k) by rw[←S0.out];apply Qwy;rw[QD4];unfold B32;omega)
    have HC:=hid (show owed B32 a b (k+1)=0 by rw[S1.out,if_neg (by omega)])
    go_wp2_with (first
     | (refine Qad rfl rfl _ _ _ rfl _ _ _ _ h4 rfl ?hl rfl (by kernel_rfl) ?_;(case hl=>rw[Qau _ _ _ (by rw[hlS];rfl)];simp;omega);intro v w6 hv hb6 ho6;simp[go_sem]at hv;subst hv))
    go_roundw
    case rel=>
     rw[HD.out,QaQ _ _ _ _ (by rw[hlS];rfl) (by simp;omega) (QdX _ _ (by omega))]at hb6
     exact⟨k+1,by omega,by go_num,by rw[HC.out];rfl,h1.only ho6 (by omega),h2.only ho6 (by omega),h3.only ho6 (by omega),hb6,L.only ho6 (by omega)⟩
    case measure=>simp[intOf];omega
  ·rw[show k=8 by omega,QbT _ _ _ hlS rfl]at h4
   have hko:owed B32 a b k=owed B32 a b 8:=by rw[show k=8 by omega]
   have hol:=QkQ B32 a b k
   have hoB:(owed B32 a b k<B64)=True:=eq_true (QDX hol (by decide))
   have HK:=hid hko
   clear hko
   go_wp2_with (first
    | (refine QaT rfl _ rfl h4 rfl ?_)
    | (refine Qar rfl rfl _ _ rfl h3 rfl rfl rfl ?_;intro w4 hb4 ho4)
    | fail)
   exact bodyPost_ret (Qaf rfl _ _ _ _ _ _ hb4 rfl Tryz.underlying225 rfl (by rw[Qav];exact Qj3)) rfl ⟨by rw[←HK.out];rfl,L.only ho4 (by omega)⟩
def decV:Option Value→Nat
 | some (.int _ x)=>x.toNat
 | _=>0
def lies (B k:Nat) (g:Nat) (w:World):Nat:=val B ((QDt k).map fun i=>decV (w.cell? ⟨g,i,none⟩))
theorem QhX (B n:Nat):∀k,(QDt k).map (fun i=>n/B^i%B)=dig B k n
 | 0=>rfl
 | k+1=>by rw[QEN,QDo,QhX B n k,QfD];rfl
theorem Qwu {w:World} {g:Nat} {t:TypeId} {n:Nat} (h:Blk w g t (NL n)) (hn:n<T256):lies B32 8 g w=n:=by
 have e:(QDt 8).map (fun i=>decV (w.cell? ⟨g,i,none⟩))=dig B32 8 n:=by
  rw[←QhX]
  apply QEM
  intro i hi
  rw[h.cellD i (QdX n i (QEo.1 hi)),Qwi (n:=lem n i) (QC8 _ Qbb)]
  show Int.toNat ((lem n i:Nat):Int)=_
  rw[QEs]
  rfl
 rw[lies,e,Qei,QeE,QC1 hn]
theorem Qv8 {w:World} {g:Nat} {t:TypeId} {n:Nat} (h:Blk w g t (VL n)) (hn:n<B32^17):lies B32 17 g w=n:=by
 have e:(QDt 17).map (fun i=>decV (w.cell? ⟨g,i,none⟩))=dig B32 17 n:=by
  rw[←QhX]
  apply QEM
  intro i hi
  rw[h.cellD i (Qe5 n i (QEo.1 hi)),QeU (n:=lem n i) (QDB (QC8 _ Qbb) (by decide))]
  show Int.toNat ((lem n i:Nat):Int)=_
  rw[QEs]
  rfl
 rw[lies,e,Qei,QC1 hn]
set_option maxRecDepth 100000 in
set_option maxHeartbeats 2000000 in
theorem QdZ (n:Nat) (hn:n<T256) (w:World):
 Calls Tryz.prog 135 #[NN n] w fun e w'=>e= .returned (NN (n%P25))∧Later w w':=by
 go_enter Tryz.func135,Tryz.ntmps135
 go_wp2
 go_loopw [] (fun wr=>∃m:Nat,m<T256∧Hid (m%P25=n%P25)∧Blk wr w.heap.size 225 (NL m)∧Blk wr (w.heap.size+1) 225 (QCC 8 (.int .u32 0))∧Later w wr) (fun wr=>lies B32 8 w.heap.size wr)
 case atStart=>exact⟨n,hn,hid rfl,(Blk.new _ _ _).later (Qaa _ _),Blk.new' _ _ (QCC 8 (Value.int .u32 0)) (by simp),(Qaa _ _).trans (Qaa _ _)⟩
 case round=>
  obtain⟨m,hm,HM,h1,h2,L⟩:=hrel
  have hmin:=fun w=>Qiv m P25 (by decide) w
  rw[Qoo m P25 8 (by rw[QeE];exact hm) (by decide)]at hmin
  have HMIN:=hid hmin
  clear hmin
  go_wp2_with fail
  refine Qaz [0] [([],1,1),([],1,2),([3,4,5],2,6)] [] [7,8] [6] (fun _=>(fun g=>.pointer (some ⟨g,0,none⟩),.cells (QCC 8 (Value.int .u32 0)).toArray 225)) (by as_aux_lemma=>kernel_rfl) (by as_aux_lemma=>kernel_rfl) (by intro _ _ d _ _ h;cases d<;>exact h) (by intro _ _ d _ _ h;cases d<;>exact h) ?_
  simp only[pick,QCE,QCF,QCJ,QCI]
  repeat (first|go_big_quiet_skip|(go_big_quiet_want;refine Qbt _ rfl h1.drew rfl ?_;simp only[Act.put,QCL,QCQ,QCP];go_big_quiet_on)|(go_big_quiet_step (fail)))
  refine wpQuiet_nil ?_
  refine⟨?mk,?_⟩
  case mk=>
   refine⟨fun o ho=>?_,trivial⟩
   simp only[QCD,QCE,Option.some.injEq]at ho
   subst ho
   refine⟨rfl,fun W=>?_⟩
   unfold execOp
   simp[go_sem]
  simp only[Qbn,pick,QCD,QCE,QCF,QCJ,QCI]
  refine wpQuiet_nil ?_
  intro w2 hl2
  go_wp2_with fail
  (with_reducible refine (Qsp _).mono ?_);rintro e w3 ⟨rfl,hl3⟩
  go_wp2_with fail
  try refine⟨by first|assumption|exact Qab _|exact Qaa _ _|exact Later.refl _,?_⟩
  try simp only[Qai,pick,QCD,QCE,QCF,QCJ,QCI]
  repeat (go_big_quiet_step (fail))
  refine wpQuiet_nil ?_
  intro w3' hl3'
  go_wp2_with fail
  (with_reducible refine (HMIN.out _).mono ?_);rintro e w4 ⟨rfl,hl4⟩
  obtain⟨X,hX⟩:∃X:Bool,X=((if m<P25 then 1 else 0)==1):=⟨_,rfl⟩
  rw[←hX]
  have HX:=hid hX
  clear hX
  go_wp2_with fail
  try refine⟨by first|assumption|exact Qab _|exact Qaa _ _|exact Later.refl _,?_⟩
  try simp only[Qai,pick,QCD,QCE,QCF,QCJ,QCI]
  repeat (go_big_quiet_step (fail))
  refine wpQuiet_nil ?_
  intro w6 g6 hl6 hg6 _ hb6
  refine wpQuiet_nil ?_
  intro w7 hl7
  have Lr:Later wr w7:=(((((Qab _).trans hl2).trans hl3).trans hl3').trans hl4).trans (hl6.trans hl7)
  have hB:Blk w7 g6 225 (QCC 8 (Value.int .u32 0)):=Blk.later hb6 hl7
  have hA:=h1.later Lr
  have hR:=h2.later Lr
  have L7:=L.trans Lr
  have hlt1:=h1.lt
  have hlt2:=h2.lt
  have hgg:=h1.lt
  clear h2 hl2 hl3 hl3' hl4 hl6 hl7 hb6 Lr
  rcases QDF m P25 with hmp|hmp
  ·obtain rfl:X=true:=by rw[HX.out,if_pos hmp];rfl
   have hmn:=HM.out
   rw[QC1 hmp]at hmn
   have HN:=hid hmn
   clear hmn
   go_wp2_with (first
    | (refine Qar rfl rfl _ _ rfl hB rfl rfl rfl ?_;intro w8 hb8 ho8
       have hA8:=hA.only ho8 (by omega)
       have hR8:=hR.only ho8 (by omega)
       have L8:=L7.only ho8 (by omega))
    | (refine QaT rfl _ rfl hA8 rfl ?_)
    | (refine Qar rfl rfl _ _ rfl hR8 rfl rfl rfl ?_;intro w9 hb9 ho9)
    | fail)
   exact bodyPost_ret (Qkh rfl hb9 rfl) rfl ⟨by rw[←HN.out],L8.only ho9 (by omega)⟩
  ·obtain rfl:X=false:=by rw[HX.out,if_neg (by omega)];rfl
   have hs1:NL (m+T256-P25)=NL (m-P25):=Qni (by unfold T256 P25 at *;omega)
   have HS:=hid hs1
   clear hs1
   go_wp2_with (first
    | (refine Qar rfl rfl _ _ rfl hB rfl rfl rfl ?_;intro w8 hb8 ho8
       have hA8:=hA.only ho8 (by omega)
       have hR8:=hR.only ho8 (by omega)
       have L8:=L7.only ho8 (by omega))
    | (refine QaT rfl _ rfl hb8 rfl ?_)
    | (refine Qar rfl rfl _ _ rfl hA8 rfl rfl (Qav _) ?_;intro w9 hb9 ho9)
    | fail)
   go_roundw
   case rel=>
    rw[HS.out]at hb9
    exact⟨_,_,_,_,_,_,_,_,_,_,_,⟨m-P25,by omega,hid (by rw[←HM.out];exact (Nat.mod_eq_sub_mod hmp).symm),hb9,hR8.only ho9 (by omega),L8.only ho9 (by omega)⟩,rfl⟩
   case measure=>
    rw[HS.out]at hb9
    have e1:=Qwu hb9 (by omega)
    have e2:=Qwu h1 hm
    have:=Qbi
    omega
theorem Qh0 {B:Nat} (x:Nat):∀k,(∀ j,j<k→x/B^j%B=0)→x%B^k=0
 | 0,_=>by simp[Nat.mod_one]
 | k+1,h=>by rw[Qb1,Qh0 x k (fun j hj=>h j (by omega)),h k (by omega),Nat.mul_zero]
theorem QvL (n j:Nat):lem n (8+j)=lem (n/T256) j:=by rw[lem,lem,←QeE,QDs,←QD3]
theorem Qy9 (n j:Nat) (h:j<8):lem n j=lem (n%T256) j:=by
 rw[lem,lem,←Qdv B32 8 n j h,←Qdv B32 8 _ j h,←QeE,QfW]
theorem QwZ (n:Nat) (hn:n<B32^17) (h:∀j,8≤j→j<17→lem n j=0):n<T256:=by
 have h9:n/T256<B32^9:=QDD (by rw[←QeE,←QD3];exact hn)
 have:=Qh0 (B:=B32) (n/T256) 9 (fun j hj=>by have:=h (8+j) (by omega) (by omega);rw[QvL]at this;exact this)
 rw[QC1 h9]at this
 have hd:=QDx n T256
 rw[this,Nat.mul_zero,QC6]at hd
 rw[←hd]
 exact QC8 _ (by decide)
theorem QtN (n j:Nat) (h8:8≤j) (h:lem n j≠0): ¬n<T256:=by
 intro hn
 refine h ?_
 rw[lem,QDw,QEJ]
 exact QC3 hn (by rw[←QeE];exact QDC (by decide) h8)
theorem QoG {b c:Bool} (h:b=c):Ending.returned (.bool b)= .returned (.bool c):=by rw[h]
set_option maxHeartbeats 1000000 in
theorem QuS (n:Nat) (hn:n<B32^17) (w:World):
 Calls Tryz.prog 169 #[VV n] w fun e w'=>e= .returned (.bool (!decide (n<T256)))∧Later w w':=by
 have HNo:=hid (QwZ n hn)
 have HYes:=hid (QtN n)
 clear hn
 go_enter Tryz.func169,Tryz.ntmps169
 go_wp2
 go_loopw [3] (fun i wr=>∃k:Nat,8≤k∧k≤17∧i= .int .i64 k∧Hid (∀ j,8≤j→j<k→lem n j=0)∧Blk wr w.heap.size 258 (VL n)∧Later w wr) (fun i _=>17-(intOf i).toNat)
 case atStart=>exact⟨8,by omega,by omega,rfl,hid (fun j h1 h2=>by omega),Blk.new _ _ _,Qaa _ _⟩
 case round=>
  obtain⟨k,hk8,hk,rfl,HZ,h1,L⟩:=hrel
  by_cases hlt:k<17
  ·have d0:=h1.cellD k (Qe5 n k hlt)
   by_cases hz:lem n k=0
   ·have hd:decide (0<lem n k)=false:=by simp[hz]
    have HZ':=hid hz
    clear hz
    go_wp2
    go_roundw
    case rel=>
     refine⟨k+1,by omega,by omega,by go_num,hid (fun j h1 h2=>?_),h1,L⟩
     by_cases hj:j=k
     ·rw[hj];exact HZ'.out
     ·exact HZ.out j h1 (by omega)
    case measure=>simp[intOf];omega
   ·have hd:decide (0<lem n k)=true:=by simp;omega
    have HR:=hid (HYes.out k hk8 hz)
    clear hz
    go_wp2
    go_ret
    exact⟨QoG (by simp only[HR.out,decide_false,Bool.not_false]),L⟩
  ·have HR:=hid (HNo.out (fun j h8 hj=>HZ.out j h8 (by omega)))
   go_wp2
   go_ret
   exact⟨QoG (by simp only[HR.out,decide_true,Bool.not_true]),L⟩
theorem Qsg (S:Nat) (hS:S<B32^10):Qby (VL S) (QCC 17 (.int .u64 0)) 10=VL S:=by
 have hl:=Qdj S
 apply QEP (by rw[Qau _ _ _ (by rw[hl];rfl),hl];rfl)
 intro i h1 h2
 rw[hl]at h2
 by_cases hi:i<10
 ·have e:(Qby (VL S) (QCC 17 (.int .u64 0)) 10)[i]?=(VL S)[i]?:=by
   rw[Qby,QC0 (by rw[QC5,hl];omega),QEl,if_pos hi]
  rw[QCH h1,QCH (by rw[hl];exact h2)]at e
  exact Option.some.inj e
 ·have e:=Qeo (VL S) (QCC 17 (.int .u64 0)) 10 i (by rw[hl];rfl) (by omega) (by simpa using h2)
  rw[QCH h1,QEi,if_pos h2]at e
  rw[Option.some.inj e,QzL,lem,QDw,QEJ]
  ·rfl
  ·exact QC3 hS (QDC (by decide) (by omega))
theorem Qtn (m:Nat) (h:T256≤m):38*(m/T256)+m%T256<m∧(38*(m/T256)+m%T256)%P25=m%P25:=by
 unfold T256 P25 at *
 omega
set_option maxRecDepth 100000 in
set_option maxHeartbeats 2000000 in
theorem Qju (n:Nat) (hn:n<B32^17) (w:World):
 Calls Tryz.prog 137 #[VV n] w fun e w'=>e= .returned (NN (n%P25))∧Later w w':=by
 go_enter Tryz.func137,Tryz.ntmps137
 go_wp2
 go_loopw [] (fun wr=>∃m:Nat,m<B32^17∧Hid (m%P25=n%P25)∧Blk wr w.heap.size 258 (VL m)∧Blk wr (w.heap.size+1) 225 (QCC 8 (.int .u32 0))∧Later w wr) (fun wr=>lies B32 17 w.heap.size wr)
 case atStart=>exact⟨n,hn,hid rfl,(Blk.new _ _ _).later (Qaa _ _),Blk.new' _ _ (QCC 8 (Value.int .u32 0)) (by simp),(Qaa _ _).trans (Qaa _ _)⟩
 case round=>
  obtain⟨m,hm,HM,h1,h2,L⟩:=hrel
  have hhi:=hid (QuS m hm)
  rcases QDF m T256 with hlt|hge
  ·have hb:(!decide (m<T256))=false:=by simpa using hlt
   rw[hb]at hhi
   clear hb
   go_wp2_with (first
    | (refine Qk2 rfl _ rfl h1 rfl ?_)
    | (go_at_call 169;(with_reducible refine (hhi.out _).mono ?_);rintro e w2 ⟨rfl,hl2⟩
       have h12:=h1.later hl2
       have h22:=h2.later hl2
       have L2:=L.trans hl2
       clear hhi)
    | fail)
   have hlS:=Qav m
   have hlz:=h12.lt
   have hlz2:=h22.lt
   go_loopw [7] (fun i wx=>∃k:Nat,k≤8∧i= .int .i64 k∧Blk wx w.heap.size 258 (VL m)∧Blk wx (w.heap.size+1) 225 (QCC 8 (.int .u32 0))∧Blk wx w2.heap.size 225 (Qby (NL m) (QCC 8 (.int .u32 0)) k)∧Later w wx) (fun i _=>8-(intOf i).toNat)
   case atStart=>exact⟨0,by omega,rfl,h12.later (Qaa _ _),h22.later (Qaa _ _),by rw[Qbm];exact Blk.new _ _ (QCC 8 (Value.int .u32 0)),L2.trans (Qaa _ _)⟩
   case round=>
    clear h12 h22 L2
    obtain⟨k,hk,rfl,h3,h4,h5,L3⟩:=hrel
    by_cases hk8:k<8
    ·have d0:=h3.cellD k (Qe5 m k (by omega))
     go_wp2_with (first
      | (refine Qad rfl rfl _ _ _ rfl _ _ _ _ h5 rfl ?hl rfl (by kernel_rfl) ?_;(case hl=>rw[Qau _ _ _ (by rw[hlS];rfl)];simp;omega);intro v w6 hv hb6 ho6;simp[go_sem]at hv;subst hv))
     go_roundw
     case rel=>
      rw[QaQ _ _ _ _ (by rw[hlS];rfl) (by simp;omega) (QdX _ _ (by omega))]at hb6
      exact⟨k+1,by omega,by go_num,h3.only ho6 (by omega),h4.only ho6 (by omega),hb6,L3.only ho6 (by have:=L.size;omega)⟩
     case measure=>simp[intOf];omega
    ·rw[show k=8 by omega,QbT _ _ _ hlS rfl]at h5
     have hkf:decide ((k:Int)<8)=false:=by simp;omega
     go_wp2_with (first
      | (refine QaT rfl _ rfl h5 rfl ?_)
      | (go_at_call 135;(with_reducible refine (QdZ m hlt _).mono ?_);rintro e w7 ⟨rfl,hl7⟩)
      | (refine Qar rfl rfl _ _ rfl (h4.later hl7) rfl rfl rfl ?_;intro w9 hb9 ho9)
      | fail)
     exact bodyPost_ret (Qkh rfl hb9 rfl) rfl ⟨by rw[HM.out],(L3.trans hl7).only ho9 (by omega)⟩
  ·have hb:(!decide (m<T256))=true:=by simpa using hge
   rw[hb]at hhi
   clear hb
   obtain⟨hf1,hf2⟩:=Qtn m hge
   have hh9:m/T256<B32^9:=QDD (by rw[←QeE,←QD3];exact hm)
   have hhl:=fun j=>QvL m j
   have hll:=fun j h=>Qy9 m j h
   have hlm:=QC8 m (show 0<T256 by decide)
   have hS10:38*(m/T256)+m%T256<B32^10:=by
    have e1:B32^10=4294967296*(4294967296*T256):=by decide
    have e2:B32^9=4294967296*T256:=by decide
    rw[e2]at hh9
    rw[e1]
    omega
   have hd10:(38*(m/T256)+m%T256)/B32^9<B32:=QDD (by rw[←QDA];exact hS10)
   have hdd:lem (38*(m/T256)+m%T256) 9=(38*(m/T256)+m%T256)/B32^9:=QC1 hd10
   have hmE:mcar B32 38 (m/T256) (m%T256) 9=(38*(m/T256)+m%T256)/B32^9:=by
    rw[mcar,QC1 hh9,QC1 (QDB hlm (by decide))]
   rw[←hmE]at hdd
   have HDD:=hid hdd
   have HF2:=hid (hf2.trans HM.out)
   have HF1:=hid hf1
   have HVF:=hid (Qsg _ hS10)
   have HHL:=hid hhl
   have HLL:=hid hll
   have HS17:=hid (QC3 hS10 (show B32^10≤B32^17 from QDC (by decide) (by omega)))
   have hz8:lem (m%T256) 8=0:=by rw[lem,QDw (by rw[QeE];exact hlm),QEJ]
   have HZ8:=hid hz8
   clear hdd hmE hd10 hf1 hf2 hhl hll hS10 hz8 hh9 hlm
   generalize m/T256=H at *
   generalize m%T256=Lo at *
   have hlS:=Qdj (38*H+Lo)
   go_wp2_with (first
    | (refine Qk2 rfl _ rfl h1 rfl ?_)
    | (go_at_call 169;(with_reducible refine (hhi.out _).mono ?_);rintro e w2 ⟨rfl,hl2⟩
       have h12:=(h1.later hl2).later (Qaa _ (.cells (QCC 17 (.int .u64 0)).toArray 258))
       have h22:=(h2.later hl2).later (Qaa _ (.cells (QCC 17 (.int .u64 0)).toArray 258))
       have L2:=(L.trans hl2).trans (Qaa _ (.cells (QCC 17 (.int .u64 0)).toArray 258))
       have hz1:=(h1.later hl2).lt
       have hz2:=(h2.later hl2).lt
       clear hhi)
    | fail)
   go_loopw [4,5] (fun c i wx=>∃k:Nat,k≤9∧i= .int .i64 k∧c=n64 (mcar B32 38 H Lo k)∧Blk wx w.heap.size 258 (VL m)∧Blk wx (w.heap.size+1) 225 (QCC 8 (.int .u32 0))∧Blk wx w2.heap.size 258 (Qby (VL (38*H+Lo)) (QCC 17 (.int .u64 0)) k)∧Later w wx) (fun _ i _=>9-(intOf i).toNat)
   case atStart=>exact⟨0,by omega,rfl,by rw[Qlk];rfl,h12,h22,by rw[Qbm];exact Blk.new _ _ (QCC 17 (Value.int .u64 0)),L2⟩
   case round=>
    clear h12 h22 L2
    obtain⟨k,hk,rfl,rfl,h3,h4,h5,L3⟩:=hrel
    by_cases hk9:k<9
    ·have hc:=QsC (show 38<B32 by decide) H Lo k
     have S0:=hid (mdig Qbb 38 H Lo k)
     have S1:=hid (Qlg Qbb 38 H Lo k)
     have d1:=h3.cellD (k+8) (Qe5 m (k+8) (by omega))
     rw[QEF k 8,HHL.out k,QEF 8 k]at d1
     have hlH:lem H k<B32:=QC8 _ Qbb
     have hlL:lem Lo k<B32:=QC8 _ Qbb
     change Hid ((38*lem H k+lem Lo k+mcar B32 38 H Lo k)%B32=lem (38*H+Lo) k)at S0
     change Hid ((38*lem H k+lem Lo k+mcar B32 38 H Lo k)/B32=_)at S1
     by_cases hk8:k<8
     ·have d0:=h3.cellD k (Qe5 m k (by omega))
      rw[HLL.out k hk8]at d0
      generalize mcar B32 38 H Lo k=c at *
      have hsm:(c+lem Lo k+38*lem H k<B64)=True:=eq_true (by unfold B64;unfold B32 at *;omega)
      have E0:=hid (show (c+lem Lo k+38*lem H k)%4294967296=lem (38*H+Lo) k by rw[←S0.out];unfold B32;congr 1;omega)
      have E1:=hid (show (c+lem Lo k+38*lem H k)/4294967296=mcar B32 38 H Lo (k+1) by rw[←S1.out];unfold B32;congr 1;omega)
      go_wp2_with (first
       | (refine Qad rfl rfl _ _ _ rfl _ _ _ _ h5 rfl ?hl rfl (by kernel_rfl) ?_;(case hl=>rw[Qau _ _ _ (by rw[hlS];rfl)];simp;omega);intro v w6 hv hb6 ho6;simp[go_sem]at hv;subst hv))
      go_roundw
      case rel=>
       rw[E0.out,QaQ _ _ _ _ (by rw[hlS];rfl) (by simp;omega) (Qe5 _ _ (by omega))]at hb6
       exact⟨k+1,by omega,by go_num,by rw[E1.out],h3.only ho6 (by omega),h4.only ho6 (by omega),hb6,L3.only ho6 (by have:=L.size;omega)⟩
      case measure=>simp[intOf];omega
     ·have hk8e:lem Lo k=0:=by rw[show k=8 by omega];exact HZ8.out
      have HKE:=hid hk8e
      clear hk8e
      generalize mcar B32 38 H Lo k=c at *
      have hsm:(c+38*lem H k<B64)=True:=eq_true (by unfold B64;unfold B32 at *;omega)
      have E0:=hid (show (c+38*lem H k)%4294967296=lem (38*H+Lo) k by rw[←S0.out,HKE.out];unfold B32;congr 1;omega)
      have E1:=hid (show (c+38*lem H k)/4294967296=mcar B32 38 H Lo (k+1) by rw[←S1.out,HKE.out];unfold B32;congr 1;omega)
      go_wp2_with (first
       | (refine Qad rfl rfl _ _ _ rfl _ _ _ _ h5 rfl ?hl rfl (by kernel_rfl) ?_;(case hl=>rw[Qau _ _ _ (by rw[hlS];rfl)];simp;omega);intro v w6 hv hb6 ho6;simp[go_sem]at hv;subst hv))
      go_roundw
      case rel=>
       rw[E0.out,QaQ _ _ _ _ (by rw[hlS];rfl) (by simp;omega) (Qe5 _ _ (by omega))]at hb6
       exact⟨k+1,by omega,by go_num,by rw[E1.out],h3.only ho6 (by omega),h4.only ho6 (by omega),hb6,L3.only ho6 (by have:=L.size;omega)⟩
      case measure=>simp[intOf];omega
    ·rw[show k=9 by omega]at h5
     have hkf:decide ((k:Int)<9)=false:=by simp;omega
     have HC9:=hid (show n64 (mcar B32 38 H Lo k)=n64 (lem (38*H+Lo) 9) by rw[show k=9 by omega,HDD.out])
     go_wp2_with (first
      | (refine Qad rfl rfl _ _ _ rfl _ _ _ _ h5 rfl ?hl rfl (by kernel_rfl) ?_;(case hl=>rw[Qau _ _ _ (by rw[hlS];rfl)];simp);intro v w6 hv hb6 ho6;simp[go_sem]at hv;subst hv
         rw[HC9.out,QaQ _ _ _ _ (by rw[hlS];rfl) (by simp) (Qe5 _ 9 (by omega)),HVF.out]at hb6
         have h36:=h3.only ho6 (by omega))
      | (refine Qk2 rfl _ rfl hb6 rfl ?_)
      | (refine Qxs rfl rfl _ _ rfl h36 rfl rfl (Qdj _) ?_;intro w7 hb7 ho7)
      | fail)
     go_roundw
     case rel=>
      repeat apply Exists.intro
      exact⟨⟨38*H+Lo,HS17.out,hid HF2.out,hb7,(h4.only ho6 (by omega)).only ho7 (by omega),(L3.only ho6 (by have:=L.size;omega)).only ho7 (by omega)⟩,rfl⟩
     case measure=>
      have e1:=Qv8 hb7 HS17.out
      have e2:=Qv8 h1 hm
      have:=HF1.out
      omega
theorem Qqj (S k:Nat) (hk:k≤17) (hS:S<B32^k):Qby (VL S) (QCC 17 (.int .u64 0)) k=VL S:=by
 have hl:=Qdj S
 apply QEP (by rw[Qau _ _ _ (by rw[hl];rfl),hl];rfl)
 intro i h1 h2
 rw[hl]at h2
 by_cases hi:i<k
 ·have e:(Qby (VL S) (QCC 17 (.int .u64 0)) k)[i]?=(VL S)[i]?:=by
   rw[Qby,QC0 (by rw[QC5,hl];omega),QEl,if_pos hi]
  rw[QCH h1,QCH (by rw[hl];exact h2)]at e
  exact Option.some.inj e
 ·have e:=Qeo (VL S) (QCC 17 (.int .u64 0)) k i (by rw[hl];rfl) (by omega) (by simpa using h2)
  rw[QCH h1,QEi,if_pos h2]at e
  rw[Option.some.inj e,QzL,lem,QDw,QEJ]
  ·rfl
  ·exact QC3 hS (QDC (by decide) (by omega))
set_option maxRecDepth 100000 in
set_option maxHeartbeats 2000000 in
theorem Qxk (a b:Nat) (ha:a<T256) (hb:b<T256) (w:World):
 Calls Tryz.prog 105 #[NN a,NN b] w fun e w'=>e= .returned (NN ((a+b)%P25))∧Later w w':=by
 have hS9:a+b<B32^9:=by
  have:B32^9=4294967296*T256:=by decide
  rw[this]
  omega
 have HVF:=hid (Qqj (a+b) 9 (by omega) hS9)
 have hlS:=Qdj (a+b)
 have h8:carr B32 a b 0 8=lem (a+b) 8:=by
  rw[Qvd _ _ _ _ (by rw[QeE];exact ha) (by rw[QeE];exact hb),lem,QC1,QEm]
  exact QDD (by rw[←QDA];exact hS9)
 have HC8:=hid h8
 have HF:=hid (Qju (a+b) (QC3 hS9 (QDC (by decide) (by omega))))
 clear h8 hS9
 go_enter Tryz.func105,Tryz.ntmps105
 go_wp2
 go_loopw [6,7] (fun c i wr=>∃k:Nat,k≤8∧i= .int .i64 k∧c=n64 (carr B32 a b 0 k)∧Blk wr w.heap.size 225 (NL a)∧Blk wr (w.heap.size+1) 225 (NL b)∧Blk wr (w.heap.size+1+1) 225 (QCC 8 (.int .u32 0))∧Blk wr (w.heap.size+1+1+1) 258 (Qby (VL (a+b)) (QCC 17 (.int .u64 0)) k)∧Later w wr) (fun _ i _=>8-(intOf i).toNat)
 case atStart=>exact⟨0,by omega,rfl,by rw[Qlq];rfl,(((Blk.new _ _ _).later (Qaa _ _)).later (Qaa _ _)).later (Qaa _ _),((Blk.new' _ _ (NL b) (by simp)).later (Qaa _ _)).later (Qaa _ _),(Blk.new' _ _ (QCC 8 (Value.int .u32 0)) (by simp)).later (Qaa _ _),by rw[Qbm];exact Blk.new' _ _ (QCC 17 (Value.int .u64 0)) (by simp),(((Qaa _ _).trans (Qaa _ _)).trans (Qaa _ _)).trans (Qaa _ _)⟩
 case round=>
  obtain⟨k,hk4,rfl,rfl,h1,h2,h3,h4,L⟩:=hrel
  by_cases hlt:k<8
  ·have d0:=h1.cellD k (QdX a _ (by omega))
   have d1:=h2.cellD k (QdX b _ (by omega))
   have hc:=Qng Qbb a b 0 k (by omega)
   have S0:=hid (QmZ Qbb a b 0 k)
   have S1:=hid (QiV Qbb a b 0 k)
   have hx:lem a k<B32:=QC8 _ Qbb
   have hy:lem b k<B32:=QC8 _ Qbb
   change Hid ((lem a k+lem b k+carr B32 a b 0 k)%B32=lem (a+b) k)at S0
   change Hid ((lem a k+lem b k+carr B32 a b 0 k)/B32=carr B32 a b 0 (k+1))at S1
   generalize carr B32 a b 0 k=c at *
   have hsm:(c+lem a k+lem b k<B64)=True:=eq_true (by unfold B64;unfold B32 at *;omega)
   have E0:=hid (show (c+lem a k+lem b k)%4294967296=lem (a+b) k by rw[←S0.out];unfold B32;congr 1;omega)
   have E1:=hid (show (c+lem a k+lem b k)/4294967296=carr B32 a b 0 (k+1) by rw[←S1.out];unfold B32;congr 1;omega)
   go_wp2_with fail
   refine Qag [] [0,1,2,3,4,5,6,7,8,9,10,11] [] (by as_aux_lemma=>kernel_rfl) (by as_aux_lemma=>kernel_rfl) (by intro _ _ d _ _ h;cases d<;>exact h) ?_
   simp only[Qai,pick,QCD,QCE,QCF,QCJ,QCI]
   repeat (go_big_quiet_step (fail))
   refine wpQuiet_nil ?_
   go_wp2_with (first
    | (refine Qad rfl rfl _ _ _ rfl _ _ _ _ h4.drew rfl ?hl rfl (by kernel_rfl) ?_;(case hl=>rw[Qau _ _ _ (by rw[hlS];rfl)];simp;omega);intro v w6 hv hb6 ho6;simp[go_sem]at hv;subst hv)
    | fail)
   go_roundw
   case rel=>
    rw[E0.out,QaQ _ _ _ _ (by rw[hlS];rfl) (by simp;omega) (Qe5 _ _ (by omega))]at hb6
    exact⟨k+1,by omega,by go_num,by rw[E1.out],h1.drew.only ho6 (by omega),h2.drew.only ho6 (by omega),h3.drew.only ho6 (by omega),hb6,(L.trans (Qab _)).only ho6 (by omega)⟩
   case measure=>simp[intOf];omega
  ·rw[show k=8 by omega]at h4
   have hkf:decide ((k:Int)<8)=false:=by simp;omega
   have HC9:=hid (show n64 (carr B32 a b 0 k)=n64 (lem (a+b) 8) by rw[show k=8 by omega,HC8.out])
   go_wp2_with (first
    | (refine Qad rfl rfl _ _ _ rfl _ _ _ _ h4 rfl ?hl rfl (by kernel_rfl) ?_;(case hl=>rw[Qau _ _ _ (by rw[hlS];rfl)];simp);intro v w6 hv hb6 ho6;simp[go_sem]at hv;subst hv
       rw[HC9.out,QaQ _ _ _ _ (by rw[hlS];rfl) (by simp) (Qe5 _ 8 (by omega)),HVF.out]at hb6
       have h36:=h3.only ho6 (by omega)
       have L6:=L.only ho6 (by omega))
    | (refine Qk2 rfl _ rfl hb6 rfl ?_)
    | (go_at_call 137;(with_reducible refine (HF.out _).mono ?_);rintro e w7 ⟨rfl,hl7⟩)
    | (refine Qar rfl rfl _ _ rfl (h36.later hl7) rfl rfl rfl ?_;intro w9 hb9 ho9)
    | fail)
   exact bodyPost_ret (Qkh rfl hb9 rfl) rfl ⟨rfl,(L6.trans hl7).only ho9 (by omega)⟩
theorem QtO {B:Nat} (hB:0<B) (a b k n:Nat) (ha:a<B^k) (hb:b<B^k) (hn:k+k≤n):QbP B (dig B k a) (dig B k b) n k=dig B n (a*b):=by
 have hl:=Qb4 B (dig B k a) (dig B k b) n k
 have hlt:=Qfe hB (dig B k a) (dig B k b) n (QdR hB k a) (QdR hB k b) k
 have hv:=Qg6 (B:=B) (dig B k a) (dig B k b) n k (by rw[QaL];omega) (by rw[QaL];omega)
 rw[QCT (by rw[QaL];omega),Qei,Qei,QC1 ha,QC1 hb]at hv
 have:=Qkf _ hlt
 rw[hl,hv]at this
 exact this.symm
set_option maxRecDepth 100000 in
set_option maxHeartbeats 4000000 in
theorem QkO (a b:Nat) (ha:a<T256) (hb:b<T256) (w:World):
 Calls Tryz.prog 107 #[NN a,NN b] w fun e w'=>e= .returned (NN (a*b%P25))∧Later w w':=by
 have hab:a*b<B32^17:=by
  have h1:a*b≤(T256-1)*(T256-1):=Nat.mul_le_mul (by omega) (by omega)
  exact QDX h1 (by decide)
 have HF:=hid (Qju (a*b) hab)
 have HP:=hid (show (QbP B32 (dig B32 8 a) (dig B32 8 b) 17 8).map n64=VL (a*b) by rw[QtO Qbb a b 8 17 (by rw[QeE];exact ha) (by rw[QeE];exact hb) (by omega)];rfl)
 clear hab
 have hla:=fun i (h:i<8)=>Qdv B32 8 a i h
 have hlb:=fun i (h:i<8)=>Qdv B32 8 b i h
 have hal:=QdR Qbb 8 a
 have hbl:=QdR Qbb 8 b
 have hBl:=QaL B32 8 b
 generalize hdA:dig B32 8 a=dA at *
 generalize hdB:dig B32 8 b=dB at *
 have HLA:=hid hla
 have HLB:=hid hlb
 have HBl:=hid hBl
 clear hdA hdB hla hlb hBl
 go_enter Tryz.func107,Tryz.ntmps107
 go_wp2
 go_loopw [6] (fun i wr=>∃k:Nat,k≤8∧i= .int .i64 k∧Blk wr w.heap.size 225 (NL a)∧Blk wr (w.heap.size+1) 225 (NL b)∧Blk wr (w.heap.size+1+1) 225 (QCC 8 (.int .u32 0))∧Blk wr (w.heap.size+1+1+1) 258 ((QbP B32 dA dB 17 k).map n64)∧Later w wr) (fun i _=>8-(intOf i).toNat)
 case atStart=>exact⟨0,by omega,rfl,(((Blk.new _ _ _).later (Qaa _ _)).later (Qaa _ _)).later (Qaa _ _),((Blk.new' _ _ (NL b) (by simp)).later (Qaa _ _)).later (Qaa _ _),(Blk.new' _ _ (QCC 8 (Value.int .u32 0)) (by simp)).later (Qaa _ _),Blk.new' _ _ (QCC 17 (Value.int .u64 0)) (by simp),(((Qaa _ _).trans (Qaa _ _)).trans (Qaa _ _)).trans (Qaa _ _)⟩
 case round=>
  obtain⟨k,hk4,rfl,h1,h2,h3,h4,L⟩:=hrel
  by_cases hlt:k<8
  ·have hpl:=Qb4 B32 dA dB 17 k
   have hpt:=Qfe Qbb dA dB 17 hal hbl k
   have HS:=hid (QhP B32 dA dB 17 k (lem a k) 8 (HLA.out k hlt) HBl.out)
   generalize QbP B32 dA dB 17 k=ws at *
   have HPL:=hid hpl
   clear hpl
   have hkb:decide ((k:Int)<8)=true:=by simp;omega
   go_wp2
   go_loopw [7,8] (fun c i wr=>∃j:Nat,j≤8∧i= .int .i64 j∧c=n64 (Qbs B32 (lem a k) dB ws k j).2∧Blk wr w.heap.size 225 (NL a)∧Blk wr (w.heap.size+1) 225 (NL b)∧Blk wr (w.heap.size+1+1) 225 (QCC 8 (.int .u32 0))∧Blk wr (w.heap.size+1+1+1) 258 ((Qbs B32 (lem a k) dB ws k j).1.map n64)∧Later w wr) (fun _ i _=>8-(intOf i).toNat)
   case atStart=>exact⟨0,by omega,rfl,rfl,h1,h2,h3,h4,L⟩
   case round=>
    clear h1 h2 h3 h4 L
    obtain⟨j,hj4,rfl,rfl,h1,h2,h3,h4,L⟩:=hrel
    have hrl:=QcO B32 (lem a k) dB ws k j
    obtain⟨hrt,hct⟩:=QhB (B:=B32) (lem a k) dB ws k (QC8 _ Qbb) hbl hpt j
    by_cases hlj:j<8
    ·have da:=h1.cellD k (QdX a k hlt)
     have db:=h2.cellD j (QdX b j hlj)
     have dw:=h4.cellD (k+j) (Qsi _ _ (by rw[hrl,HPL.out];omega))
     have hwl:=QiM Qbb hrt (k+j)
     have HR:=hid (Qjk B32 (lem a k) dB ws k j (lem b j) (HLB.out j hlj))
     generalize (Qbs B32 (lem a k) dB ws k j).2=c at *
     generalize (Qbs B32 (lem a k) dB ws k j).1.getD (k+j) 0=v at *
     generalize (Qbs B32 (lem a k) dB ws k j).1=vs at *
     have HRL:=hid hrl
     clear hrl
     have hkj:IntKind.i64.wrap ((k:Int)+(j:Int))=((k+j:Nat):Int):=by rw[IntKind.wrap_i64];omega
     have hmul:lem a k*lem b j≤4294967295*4294967295:=Nat.mul_le_mul (Nat.le_of_lt_succ (QC8 _ Qbb)) (Nat.le_of_lt_succ (QC8 _ Qbb))
     have hsm:(c+v+lem a k*lem b j<B64)=True:=eq_true (by unfold B64;unfold B32 at *;omega)
     have HE:(c+v+lem a k*lem b j)=lem a k*lem b j+v+c:=by omega
     have E0:=hid (show (c+v+lem a k*lem b j)%4294967296=(lem a k*lem b j+v+c)%B32 by rw[HE];rfl)
     have E1:=hid (show (c+v+lem a k*lem b j)/4294967296=(lem a k*lem b j+v+c)/B32 by rw[HE];rfl)
     clear HE hmul
     go_wp2_with fail
     refine Qag [] [0,1,2,3,4,5,6,7,8,9,10,11,12,13,14,15,16,17] [] (by as_aux_lemma=>kernel_rfl) (by as_aux_lemma=>kernel_rfl) (by intro _ _ d _ _ h;cases d<;>exact h) ?_
     simp only[Qai,pick,QCD,QCE,QCF,QCJ,QCI]
     repeat (go_big_quiet_step (fail))
     refine wpQuiet_nil ?_
     go_wp2_with (first
      | (refine Qad rfl rfl _ _ _ rfl _ _ _ _ h4.drew rfl ?hl rfl (by kernel_rfl) ?_;(case hl=>rw[QCG,HRL.out,HPL.out];omega);intro v w2 hv hb2 ho2;simp[go_sem]at hv;subst hv)
      | fail)
     go_roundw
     case rel=>
      rw[Qkl,E0.out]at hb2
      exact⟨j+1,by omega,by go_num,by rw[HR.out,E1.out],h1.drew.only ho2 (by omega),h2.drew.only ho2 (by omega),h3.drew.only ho2 (by omega),by rw[HR.out];exact hb2,(L.trans (Qab _)).only ho2 (by omega)⟩
     case measure=>simp[intOf];omega
    ·obtain rfl:j=8:=by omega
     generalize hc4:(Qbs B32 (lem a k) dB ws k 8).2=c at *
     generalize hv4:(Qbs B32 (lem a k) dB ws k 8).1=vs at *
     have HRL:=hid hrl
     have HC4:=hid hc4
     have HV4:=hid hv4
     clear hrl hc4 hv4
     have hk8:IntKind.i64.wrap ((k:Int)+8)=((k+8:Nat):Int):=by rw[IntKind.wrap_i64];omega
     go_wp2_with (first
      | (refine Qad rfl rfl _ _ _ rfl _ _ _ _ h4 rfl ?hl rfl (by kernel_rfl) ?_;(case hl=>rw[QCG,HRL.out,HPL.out];omega);intro v w2 hv hb2 ho2;simp[go_sem]at hv;subst hv)
      | fail)
     go_roundw
     case rel=>
      rw[Qkl]at hb2
      exact⟨k+1,by omega,by go_num,h1.only ho2 (by omega),h2.only ho2 (by omega),h3.only ho2 (by omega),by rw[HS.out];exact hb2,L.only ho2 (by omega)⟩
     case measure=>simp[intOf];omega
  ·rw[show k=8 by omega,HP.out]at h4
   have hkf:decide ((k:Int)<8)=false:=by simp;omega
   go_wp2_with (first
    | (refine Qk2 rfl _ rfl h4 rfl ?_)
    | (go_at_call 137;(with_reducible refine (HF.out _).mono ?_);rintro e w7 ⟨rfl,hl7⟩)
    | (refine Qar rfl rfl _ _ rfl (h3.later hl7) rfl rfl rfl ?_;intro w9 hb9 ho9)
    | fail)
   exact bodyPost_ret (Qkh rfl hb9 rfl) rfl ⟨rfl,(L.trans hl7).only ho9 (by omega)⟩
theorem Quu (a:Nat) (w:World):
 Calls Tryz.prog 138 #[NN a,NN 38] w fun e w'=>e= .returned (.tuple #[NN (a+T256-38),.bool (owed B32 a 38 8==1)])∧Later w w':=Qiv a 38 (by decide) w
set_option maxRecDepth 100000 in
set_option maxHeartbeats 2000000 in
theorem Qx5 (a b:Nat) (ha:a<T256) (hb:b<T256) (w:World):
 Calls Tryz.prog 106 #[NN a,NN b] w fun e w'=>e= .returned (NN ((a+(P25-b%P25))%P25))∧Later w w':=by
 have h1:Blk (((w.alloc (.cells (NL a).toArray 225)).alloc (.cells (NL b).toArray 225)).alloc (.cells (QCC 8 (.int .u32 0)).toArray 225)) w.heap.size 225 (NL a):=((Blk.new _ _ _).later (Qaa _ _)).later (Qaa _ _)
 have h2:Blk (((w.alloc (.cells (NL a).toArray 225)).alloc (.cells (NL b).toArray 225)).alloc (.cells (QCC 8 (.int .u32 0)).toArray 225)) (w.heap.size+1) 225 (NL b):=(Blk.new' _ _ (NL b) (by simp)).later (Qaa _ _)
 have h3:Blk (((w.alloc (.cells (NL a).toArray 225)).alloc (.cells (NL b).toArray 225)).alloc (.cells (QCC 8 (.int .u32 0)).toArray 225)) (w.heap.size+1+1) 225 (QCC 8 (.int .u32 0)):=Blk.new' _ _ (QCC 8 (Value.int .u32 0)) (by simp)
 have L:Later w (((w.alloc (.cells (NL a).toArray 225)).alloc (.cells (NL b).toArray 225)).alloc (.cells (QCC 8 (.int .u32 0)).toArray 225)):=((Qaa _ _).trans (Qaa _ _)).trans (Qaa _ _)
 have hmin:=fun w=>Qiv (a%P25) (b%P25) (QDB (QC8 _ Qbi) (by decide)) w
 rw[Qoo _ _ 8 (by rw[QeE];exact QDB (QC8 _ Qbi) (by decide)) (by rw[QeE];exact QDB (QC8 _ Qbi) (by decide))]at hmin
 have HMIN:=hid hmin
 clear hmin
 go_enter Tryz.func106,Tryz.ntmps106
 go_wp2_with fail
 refine Qaz [0,2] [([],1,1),([],1,3),([],1,4),([5,6,7],2,8)] [] [9,10] [8] (fun _=>(fun g=>.pointer (some ⟨g,0,none⟩),.cells (QCC 8 (Value.int .u32 0)).toArray 225)) (by as_aux_lemma=>kernel_rfl) (by as_aux_lemma=>kernel_rfl) (by intro _ _ d _ _ h;cases d<;>exact h) (by intro _ _ d _ _ h;cases d<;>exact h) ?_
 simp only[pick,QCD,QCE,QCF,QCJ,QCI]
 repeat (first|go_big_quiet_skip|(go_big_quiet_want;(first|refine Qbt _ rfl h1.drew rfl ?_|refine Qbt _ rfl h2.drew rfl ?_);simp only[Act.put,QCL,QCQ,QCP];go_big_quiet_on)|(go_big_quiet_step (fail)))
 refine wpQuiet_nil ?_
 refine⟨?mk,?_⟩
 case mk=>
  refine⟨fun o ho=>?_,trivial⟩
  simp only[QCD,QCE,Option.some.injEq]at ho
  subst ho
  refine⟨rfl,fun W=>?_⟩
  unfold execOp
  simp[go_sem]
 simp only[Qbn,pick,QCD,QCE,QCF,QCJ,QCI]
 refine wpQuiet_nil ?_
 intro v1 j1
 go_wp2_with fail
 (with_reducible refine (QdZ a ha _).mono ?_);rintro e v2 ⟨rfl,j2⟩
 go_wp2_with fail
 try refine⟨by first|assumption|exact Qab _|exact Qaa _ _|exact Later.refl _,?_⟩
 try simp only[Qai,pick,QCD,QCE,QCF,QCJ,QCI]
 repeat (go_big_quiet_step (fail))
 refine wpQuiet_nil ?_
 intro v3 j3
 go_wp2_with fail
 (with_reducible refine (QdZ b hb _).mono ?_);rintro e v4 ⟨rfl,j4⟩
 go_wp2_with fail
 try refine⟨by first|assumption|exact Qab _|exact Qaa _ _|exact Later.refl _,?_⟩
 try simp only[Qai,pick,QCD,QCE,QCF,QCJ,QCI]
 repeat (go_big_quiet_step (fail))
 refine wpQuiet_nil ?_
 intro v5 j5
 go_wp2_with fail
 (with_reducible refine (HMIN.out _).mono ?_);rintro e v6 ⟨rfl,j6⟩
 obtain⟨X,hX⟩:∃X:Bool,X=((if a%P25<b%P25 then 1 else 0)==1):=⟨_,rfl⟩
 rw[←hX]
 have HX:=hid hX
 clear hX
 go_wp2_with fail
 try refine⟨by first|assumption|exact Qab _|exact Qaa _ _|exact Later.refl _,?_⟩
 try simp only[Qai,pick,QCD,QCE,QCF,QCJ,QCI]
 repeat (go_big_quiet_step (fail))
 refine wpQuiet_nil ?_
 intro v7 g7 j7 hg7 _ hb7
 refine wpQuiet_nil ?_
 intro v8 j8
 have Lr:=(((((((Qab _).trans j1).trans j2).trans j3).trans j4).trans j5).trans j6).trans (j7.trans j8)
 have hB:Blk v8 g7 225 (QCC 8 (Value.int .u32 0)):=Blk.later hb7 j8
 have hR:=h3.later Lr
 have hlt3:w.heap.size+1+1<g7:=QC3 h3.lt hg7
 have L8:=L.trans Lr
 clear h1 h2 h3 j1 j2 j3 j4 j5 j6 j7 j8 hb7 Lr L
 have hap:a%P25<P25:=QC8 _ Qbi
 have hbp:b%P25<P25:=QC8 _ Qbi
 have hres:(a+(P25-b%P25))%P25=(a%P25+(P25-b%P25))%P25:=by rw[Nat.mod_add_mod]
 have HRES:=hid hres
 clear hres
 rcases QDF (a%P25) (b%P25) with hmp|hmp
 ·obtain rfl:X=true:=by rw[HX.out,if_pos hmp];rfl
  have hfin:(a%P25+T256-b%P25-38)%P25=(a%P25+(P25-b%P25))%P25:=by unfold T256 P25 at *;omega
  have hc1:NL (a%P25+T256-b%P25+T256-38)=NL (a%P25+T256-b%P25-38):=Qni (by unfold T256 P25 at *;omega)
  have hbd:a%P25+T256-b%P25-38<T256:=by omega
  have HC:=hid hc1
  have HFN:=hid hfin
  clear hc1 hfin hap hbp
  generalize a%P25+T256-b%P25=y at *
  go_wp2_with (first
   | (refine Qar rfl rfl _ _ rfl hB rfl rfl rfl ?_;intro w1 hb1 ho1
      have hR1:=hR.only ho1 (by omega)
      have L1:=L8.only ho1 (by have:=L8.size;omega))
   | (refine QaT rfl _ rfl hb1 rfl ?_)
   | (refine Qal rfl 225 _ rfl (NL 38) ?hb ?_;(case hb=>kernel_rfl))
   | (go_at_call 138;(with_reducible refine (Quu y _).mono ?_);rintro e w2 ⟨rfl,hl2⟩)
   | (refine Qar rfl rfl _ _ rfl (hb1.later hl2) rfl rfl (Qav _) ?_;intro w3 hb3 ho3
      rw[HC.out]at hb3
      have hR3:=(hR1.later hl2).only ho3 (by omega)
      have L3:=(L1.trans hl2).only ho3 (by have:=L8.size;omega))
   | (refine QaT rfl _ rfl hb3 rfl ?_)
   | (go_at_call 135;(with_reducible refine (QdZ _ hbd _).mono ?_);rintro e w4 ⟨rfl,hl4⟩)
   | (refine Qar rfl rfl _ _ rfl (hR3.later hl4) rfl rfl rfl ?_;intro w5 hb5 ho5)
   | fail)
  exact bodyPost_ret (Qkh rfl hb5 rfl) rfl ⟨by rw[HRES.out,←HFN.out],(L3.trans hl4).only ho5 (by omega)⟩
 ·obtain rfl:X=false:=by rw[HX.out,if_neg (by omega)];rfl
  have hfin:(a%P25-b%P25)%P25=(a%P25+(P25-b%P25))%P25:=by unfold T256 P25 at *;omega
  have hc1:NL (a%P25+T256-b%P25)=NL (a%P25-b%P25):=Qni (by unfold T256 P25 at *;omega)
  have hbd:a%P25-b%P25<T256:=by unfold T256 P25 at *;omega
  have HC:=hid hc1
  have HFN:=hid hfin
  clear hc1 hfin hap hbp
  generalize a%P25+T256-b%P25=y at *
  generalize a%P25-b%P25=z at *
  go_wp2_with (first
   | (refine Qar rfl rfl _ _ rfl hB rfl rfl rfl ?_;intro w1 hb1 ho1
      rw[HC.out]at hb1
      have hR1:=hR.only ho1 (by omega)
      have L1:=L8.only ho1 (by have:=L8.size;omega))
   | (refine QaT rfl _ rfl hb1 rfl ?_)
   | (go_at_call 135;(with_reducible refine (QdZ _ hbd _).mono ?_);rintro e w4 ⟨rfl,hl4⟩)
   | (refine Qar rfl rfl _ _ rfl (hR1.later hl4) rfl rfl rfl ?_;intro w5 hb5 ho5)
   | fail)
  exact bodyPost_ret (Qkh rfl hb5 rfl) rfl ⟨by rw[HRES.out,←HFN.out],(L1.trans hl4).only ho5 (by omega)⟩
end Go.Proofs.YtdhgpkdjdmlphaaGreat
