/-
  Lemmas for the last text of this claim (part 2 of 20).
-/
import Derived.ArgAppend
import Derived.BigQuiet
import Derived.BigRegion
import Derived.ChangeOld
import Derived.Deep.RegionWith
import Derived.DeepKeys4
import Derived.JoinedCond
import Derived.LaidMore
import Derived.Laws.CopyOwn
import Derived.Laws.Externs
import Derived.Laws.IdiomStrings
import Derived.Laws.Tables
import Derived.Lib.AppendStr
import Derived.Lib.AppendZerosOnto
import Derived.Lib.Mul64
import Derived.Lib.SlBytesConst
import Derived.LoopN
import Derived.Maps.OwnSet
import Derived.OpenShut
import Derived.OrdersHeld
import Derived.ProofKit
import Derived.Shelf.Spec.BitsCarry
import Derived.ShutString
import Derived.Test.YtcbdgnlcknllnaaGreatProg
import Derived.Test.YtcbdgnlcknllnaaGreatRows
import Derived.WalkKit
import Derived.WalkLawsBesides
import Derived.WalkSpells
import Derived.Test.YtcbdgnlcknllnaaGreatQA
open BitVec renaming ofInt → Qzj, toNat_ushiftRight → Qzy, toNat_shiftLeft → QzU
open Bool renaming eq_iff_iff → Qy7
open Int renaming natCast_mul → Qz1
open Nat renaming lt_of_lt_of_le → QyL, div_eq_of_lt → Qzq, shiftRight_eq_div_pow → Qzs, pow_le_pow_right → QzE, min_eq_left → QzN, shiftLeft_eq → Qz7, pow_add → Qz8, mul_left_comm → QAd
open UInt32 renaming ofNat → QyU, toNat_ofNat' → QAe, toNat_inj → QAt
open UInt64 renaming ofNat → QyM, toNat_ofNat' → QyP, ofInt → Qzf, toNat_inj → Qz9
open UInt8 renaming ofNat → Qy2, ofInt → QzW, toNat_inj → Qz2, toNat_ofNat' → QAj
set_option linter.unusedSimpArgs false
namespace Go.Proofs.YtcbdgnlcknllnaaGreat
open Go.RowKit
def W8 (x:UInt8):Value:=.int .u8 (x.toNat:Int)
def W32 (x:UInt32):Value:=.int .u32 (x.toNat:Int)
def W64 (x:UInt64):Value:=.int .u64 (x.toNat:Int)
theorem Qcm (n:Int):IntKind.u8.wrap n=n%256:=by simp[IntKind.wrap,IntKind.bits,IntKind.signed]
theorem QbF (n:Int):IntKind.u32.wrap n=n%4294967296:=by simp[IntKind.wrap,IntKind.bits,IntKind.signed]
theorem QbG (n:Int):IntKind.u64.wrap n=n%18446744073709551616:=by simp[IntKind.wrap,IntKind.bits,IntKind.signed]
theorem QaE {k:Nat} (x:BitVec k):Qzj k (x.toNat:Int)=x:=by
 apply BitVec.eq_of_toNat_eq
 simp
theorem QiF (x:UInt8):((x.toNat:Int)%256)=x.toNat:=by have:=x.toNat_lt;omega
theorem Qgv (x:UInt32):((x.toNat:Int)%4294967296)=x.toNat:=by have:=x.toNat_lt;omega
theorem Qf7 (x:UInt64):((x.toNat:Int)%18446744073709551616)=x.toNat:=by have:=x.toNat_lt;omega
def cnt (n:UInt64):Nat:=n.toNat
theorem QaL (T:TypeId) (ox oy:Operand) (op:BinOp) (k k':IntKind) (x y:Int):eqGuard op T ox oy (.int k x) (.int k' y)=pure ():=by
 cases op<;>rfl
def shl8 (x:UInt8) (n:Nat):UInt8:=⟨x.toBitVec <<< n⟩
def shr8 (x:UInt8) (n:Nat):UInt8:=⟨x.toBitVec >>> n⟩
theorem Qew {x:UInt8} {n:Int} (h:(x.toNat:Int)=n):Value.int .u8 n=W8 x:=by rw[W8,h]
section
variable (T:TypeId) (ox oy:Operand)
@[go_sem] theorem QuB (op:BinOp) (x y:UInt8):eqGuard op T ox oy (W8 x) (W8 y)=pure ():=QaL ..
@[go_sem] theorem Qux (op:BinOp) (x:UInt8) (k:IntKind) (y:Int):eqGuard op T ox oy (W8 x) (.int k y)=pure ():=QaL ..
@[go_sem] theorem Quo (op:BinOp) (x:UInt8) (k:IntKind) (y:Int):eqGuard op T ox oy (.int k y) (W8 x)=pure ():=QaL ..
theorem Qbe (n:Int) (h0:0≤n) (h1:n<256):Value.int .u8 n=W8 (Qy2 n.toNat):=by
 apply Qew
 rw[QAj]
 omega
theorem QrJ (n:Int):(QzW n).toNat=(n%256).toNat:=by
 simp[QzW,QAj]
 try omega
theorem Qug (n:Int):Value.int .u8 (IntKind.wrap .u8 n)=W8 (QzW n):=by
 apply Qew
 rw[Qcm]
 have:=QrJ n
 omega
@[go_sem] theorem Qsi (x y:UInt8):binOp .add T (W8 x) (W8 y)=pure (W8 (x+y)):=by
  show binOp .add T (.int .u8 x.toNat) (.int .u8 y.toNat)=_
  rw[binOp_add]
  simp only[Op.intArith]
  rw[Qew (x:=x+y)]
  rw[Qcm,UInt8.toNat_add]
  omega
@[go_sem] theorem QxN (x:UInt8) (n:Int) (h0:0≤n) (h1:n<256):binOp .add T (W8 x) (.int .u8 n)=pure (W8 (x+Qy2 n.toNat)):=by
  rw[Qbe n h0 h1]
  exact Qsi T x _
@[go_sem] theorem Qxt (y:UInt8) (n:Int) (h0:0≤n) (h1:n<256):binOp .add T (.int .u8 n) (W8 y)=pure (W8 (Qy2 n.toNat+y)):=by
  rw[Qbe n h0 h1]
  exact Qsi T _ y
@[go_sem] theorem Qsb (x y:UInt8):binOp .sub T (W8 x) (W8 y)=pure (W8 (x-y)):=by
  show binOp .sub T (.int .u8 x.toNat) (.int .u8 y.toNat)=_
  rw[binOp_sub]
  simp only[Op.intArith]
  rw[Qew (x:=x-y)]
  rw[Qcm,UInt8.toNat_sub]
  have:=y.toNat_lt
  omega
@[go_sem] theorem Qx8 (x:UInt8) (n:Int) (h0:0≤n) (h1:n<256):binOp .sub T (W8 x) (.int .u8 n)=pure (W8 (x-Qy2 n.toNat)):=by
  rw[Qbe n h0 h1]
  exact Qsb T x _
@[go_sem] theorem QxK (y:UInt8) (n:Int) (h0:0≤n) (h1:n<256):binOp .sub T (.int .u8 n) (W8 y)=pure (W8 (Qy2 n.toNat-y)):=by
  rw[Qbe n h0 h1]
  exact Qsb T _ y
@[go_sem] theorem QsH (x y:UInt8):binOp .mul T (W8 x) (W8 y)=pure (W8 (x*y)):=by
  show binOp .mul T (.int .u8 x.toNat) (.int .u8 y.toNat)=_
  rw[binOp_mul]
  simp only[Op.intArith]
  rw[Qew (x:=x*y)]
  rw[Qcm,UInt8.toNat_mul,←Qz1]
  omega
@[go_sem] theorem Qya (x:UInt8) (n:Int) (h0:0≤n) (h1:n<256):binOp .mul T (W8 x) (.int .u8 n)=pure (W8 (x*Qy2 n.toNat)):=by
  rw[Qbe n h0 h1]
  exact QsH T x _
@[go_sem] theorem QxV (y:UInt8) (n:Int) (h0:0≤n) (h1:n<256):binOp .mul T (.int .u8 n) (W8 y)=pure (W8 (Qy2 n.toNat*y)):=by
  rw[Qbe n h0 h1]
  exact QsH T _ y
@[go_sem] theorem Qsd (x y:UInt8):binOp .and T (W8 x) (W8 y)=pure (W8 (x &&& y)):=by
  show binOp .and T (.int .u8 x.toNat) (.int .u8 y.toNat)=_
  rw[binOp_and]
  simp only[Op.intBits]
  rw[Qew (x:=x &&& y)]
  have e1:Qzj (IntKind.bits .u8) (x.toNat:Int)=x.toBitVec:=QaE x.toBitVec
  have e2:Qzj (IntKind.bits .u8) (y.toNat:Int)=y.toBitVec:=QaE y.toBitVec
  rw[e1,e2,Qcm]
  exact (QiF (x &&& y)).symm
@[go_sem] theorem QxD (x:UInt8) (n:Int) (h0:0≤n) (h1:n<256):binOp .and T (W8 x) (.int .u8 n)=pure (W8 (x &&& Qy2 n.toNat)):=by
  rw[Qbe n h0 h1]
  exact Qsd T x _
@[go_sem] theorem QxY (y:UInt8) (n:Int) (h0:0≤n) (h1:n<256):binOp .and T (.int .u8 n) (W8 y)=pure (W8 (Qy2 n.toNat &&& y)):=by
  rw[Qbe n h0 h1]
  exact Qsd T _ y
@[go_sem] theorem QuO (x y:UInt8):binOp .or T (W8 x) (W8 y)=pure (W8 (x ||| y)):=by
  show binOp .or T (.int .u8 x.toNat) (.int .u8 y.toNat)=_
  rw[binOp_or]
  simp only[Op.intBits]
  rw[Qew (x:=x ||| y)]
  have e1:Qzj (IntKind.bits .u8) (x.toNat:Int)=x.toBitVec:=QaE x.toBitVec
  have e2:Qzj (IntKind.bits .u8) (y.toNat:Int)=y.toBitVec:=QaE y.toBitVec
  rw[e1,e2,Qcm]
  exact (QiF (x ||| y)).symm
@[go_sem] theorem Qyj (x:UInt8) (n:Int) (h0:0≤n) (h1:n<256):binOp .or T (W8 x) (.int .u8 n)=pure (W8 (x ||| Qy2 n.toNat)):=by
  rw[Qbe n h0 h1]
  exact QuO T x _
@[go_sem] theorem Qye (y:UInt8) (n:Int) (h0:0≤n) (h1:n<256):binOp .or T (.int .u8 n) (W8 y)=pure (W8 (Qy2 n.toNat ||| y)):=by
  rw[Qbe n h0 h1]
  exact QuO T _ y
@[go_sem] theorem Qsq (x y:UInt8):binOp .xor T (W8 x) (W8 y)=pure (W8 (x ^^^ y)):=by
  show binOp .xor T (.int .u8 x.toNat) (.int .u8 y.toNat)=_
  rw[binOp_xor]
  simp only[Op.intBits]
  rw[Qew (x:=x ^^^ y)]
  have e1:Qzj (IntKind.bits .u8) (x.toNat:Int)=x.toBitVec:=QaE x.toBitVec
  have e2:Qzj (IntKind.bits .u8) (y.toNat:Int)=y.toBitVec:=QaE y.toBitVec
  rw[e1,e2,Qcm]
  exact (QiF (x ^^^ y)).symm
@[go_sem] theorem Qx6 (x:UInt8) (n:Int) (h0:0≤n) (h1:n<256):binOp .xor T (W8 x) (.int .u8 n)=pure (W8 (x ^^^ Qy2 n.toNat)):=by
  rw[Qbe n h0 h1]
  exact Qsq T x _
@[go_sem] theorem Qum (y:UInt8) (n:Int) (h0:0≤n) (h1:n<256):binOp .xor T (.int .u8 n) (W8 y)=pure (W8 (Qy2 n.toNat ^^^ y)):=by
  rw[Qbe n h0 h1]
  exact Qsq T _ y
@[go_sem] theorem QsL (x y:UInt8):binOp .eql T (W8 x) (W8 y)=pure (.bool (x==y)):=by
  show binOp .eql T (.int .u8 x.toNat) (.int .u8 y.toNat)=_
  rw[binOp_eql]
  have:((x.toNat:Int)==(y.toNat:Int))=(x==y):=by
   rw[Qy7,beq_iff_eq,beq_iff_eq,←Qz2]
   omega
  simp only[this]
@[go_sem] theorem QxW (x:UInt8) (n:Int) (h0:0≤n) (h1:n<256):binOp .eql T (W8 x) (.int .u8 n)=pure (.bool (x==(Qy2 n.toNat))):=by
  rw[Qbe n h0 h1]
  exact QsL T x _
@[go_sem] theorem Qxq (y:UInt8) (n:Int) (h0:0≤n) (h1:n<256):binOp .eql T (.int .u8 n) (W8 y)=pure (.bool ((Qy2 n.toNat)==y)):=by
  rw[Qbe n h0 h1]
  exact QsL T _ y
@[go_sem] theorem Qr9 (x y:UInt8):binOp .neq T (W8 x) (W8 y)=pure (.bool (x != y)):=by
  show binOp .neq T (.int .u8 x.toNat) (.int .u8 y.toNat)=_
  rw[binOp_neq]
  have:((x.toNat:Int)==(y.toNat:Int))=(x==y):=by
   rw[Qy7,beq_iff_eq,beq_iff_eq,←Qz2]
   omega
  simp only[bne,this]
@[go_sem] theorem Qxn (x:UInt8) (n:Int) (h0:0≤n) (h1:n<256):binOp .neq T (W8 x) (.int .u8 n)=pure (.bool (x != (Qy2 n.toNat))):=by
  rw[Qbe n h0 h1]
  exact Qr9 T x _
@[go_sem] theorem Qxj (y:UInt8) (n:Int) (h0:0≤n) (h1:n<256):binOp .neq T (.int .u8 n) (W8 y)=pure (.bool ((Qy2 n.toNat) != y)):=by
  rw[Qbe n h0 h1]
  exact Qr9 T _ y
@[go_sem] theorem QsO (x y:UInt8):binOp .lss T (W8 x) (W8 y)=pure (.bool (decide (x<y))):=by
  show binOp .lss T (.int .u8 x.toNat) (.int .u8 y.toNat)=_
  rw[binOp_lss]
  congr 2
  rw[decide_eq_decide,UInt8.lt_iff_toNat_lt]
  omega
@[go_sem] theorem Qx0 (x:UInt8) (n:Int) (h0:0≤n) (h1:n<256):binOp .lss T (W8 x) (.int .u8 n)=pure (.bool (decide (x<(Qy2 n.toNat)))):=by
  rw[Qbe n h0 h1]
  exact QsO T x _
@[go_sem] theorem QxM (y:UInt8) (n:Int) (h0:0≤n) (h1:n<256):binOp .lss T (.int .u8 n) (W8 y)=pure (.bool (decide ((Qy2 n.toNat)<y))):=by
  rw[Qbe n h0 h1]
  exact QsO T _ y
@[go_sem] theorem Qsx (x y:UInt8):binOp .leq T (W8 x) (W8 y)=pure (.bool (decide (x≤y))):=by
  show binOp .leq T (.int .u8 x.toNat) (.int .u8 y.toNat)=_
  rw[binOp_leq]
  congr 2
  rw[decide_eq_decide,UInt8.le_iff_toNat_le]
  omega
@[go_sem] theorem Qx4 (x:UInt8) (n:Int) (h0:0≤n) (h1:n<256):binOp .leq T (W8 x) (.int .u8 n)=pure (.bool (decide (x≤(Qy2 n.toNat)))):=by
  rw[Qbe n h0 h1]
  exact Qsx T x _
@[go_sem] theorem QxI (y:UInt8) (n:Int) (h0:0≤n) (h1:n<256):binOp .leq T (.int .u8 n) (W8 y)=pure (.bool (decide ((Qy2 n.toNat)≤y))):=by
  rw[Qbe n h0 h1]
  exact Qsx T _ y
@[go_sem] theorem Qr5 (x y:UInt8):binOp .gtr T (W8 x) (W8 y)=pure (.bool (decide (y<x))):=by
  show binOp .gtr T (.int .u8 x.toNat) (.int .u8 y.toNat)=_
  rw[binOp_gtr]
  congr 2
  rw[decide_eq_decide,UInt8.lt_iff_toNat_lt]
  omega
@[go_sem] theorem Qx2 (x:UInt8) (n:Int) (h0:0≤n) (h1:n<256):binOp .gtr T (W8 x) (.int .u8 n)=pure (.bool (decide ((Qy2 n.toNat)<x))):=by
  rw[Qbe n h0 h1]
  exact Qr5 T x _
@[go_sem] theorem QxC (y:UInt8) (n:Int) (h0:0≤n) (h1:n<256):binOp .gtr T (.int .u8 n) (W8 y)=pure (.bool (decide (y<(Qy2 n.toNat)))):=by
  rw[Qbe n h0 h1]
  exact Qr5 T _ y
@[go_sem] theorem QsS (x y:UInt8):binOp .geq T (W8 x) (W8 y)=pure (.bool (decide (y≤x))):=by
  show binOp .geq T (.int .u8 x.toNat) (.int .u8 y.toNat)=_
  rw[binOp_geq]
  congr 2
  rw[decide_eq_decide,UInt8.le_iff_toNat_le]
  omega
@[go_sem] theorem QxJ (x:UInt8) (n:Int) (h0:0≤n) (h1:n<256):binOp .geq T (W8 x) (.int .u8 n)=pure (.bool (decide ((Qy2 n.toNat)≤x))):=by
  rw[Qbe n h0 h1]
  exact QsS T x _
@[go_sem] theorem Qyb (y:UInt8) (n:Int) (h0:0≤n) (h1:n<256):binOp .geq T (.int .u8 n) (W8 y)=pure (.bool (decide (y≤(Qy2 n.toNat)))):=by
  rw[Qbe n h0 h1]
  exact QsS T _ y
@[go_sem] theorem QsC (x y:UInt8) (hy: ¬((y).toNat:Int)=0):binOp .quo T (W8 x) (W8 y)=pure (W8 (x/y)):=by
  show binOp .quo T (.int .u8 x.toNat) (.int .u8 y.toNat)=_
  rw[binOp_quo]
  simp only[Op.intDiv]
  rw[if_neg hy,Qew (x:=x/y)]
  rw[Qcm,UInt8.toNat_div,Int.tdiv_eq_ediv_of_nonneg (by omega),←Int.natCast_ediv]
  have h1:=Nat.div_le_self x.toNat y.toNat
  have h2:=x.toNat_lt
  generalize x.toNat/y.toNat=q at *
  omega
@[go_sem] theorem Qxd (x:UInt8) (n:Int) (h0:0≤n) (h1:n<256) (hy: ¬((Qy2 n.toNat).toNat:Int)=0):binOp .quo T (W8 x) (.int .u8 n)=pure (W8 (x/(Qy2 n.toNat))):=by
  rw[Qbe n h0 h1]
  exact QsC T x _ hy
@[go_sem] theorem QxH (y:UInt8) (n:Int) (h0:0≤n) (h1:n<256) (hy: ¬((y).toNat:Int)=0):binOp .quo T (.int .u8 n) (W8 y)=pure (W8 (Qy2 n.toNat/y)):=by
  rw[Qbe n h0 h1]
  exact QsC T _ y hy
@[go_sem] theorem Qsz (x y:UInt8) (hy: ¬((y).toNat:Int)=0):binOp .rem T (W8 x) (W8 y)=pure (W8 (x%y)):=by
  show binOp .rem T (.int .u8 x.toNat) (.int .u8 y.toNat)=_
  rw[binOp_rem]
  simp only[Op.intDiv]
  rw[if_neg hy,Qew (x:=x%y)]
  rw[UInt8.toNat_mod,Int.tmod_eq_emod_of_nonneg (by omega),←Int.natCast_emod]
@[go_sem] theorem Qxp (x:UInt8) (n:Int) (h0:0≤n) (h1:n<256) (hy: ¬((Qy2 n.toNat).toNat:Int)=0):binOp .rem T (W8 x) (.int .u8 n)=pure (W8 (x%(Qy2 n.toNat))):=by
  rw[Qbe n h0 h1]
  exact Qsz T x _ hy
@[go_sem] theorem QxX (y:UInt8) (n:Int) (h0:0≤n) (h1:n<256) (hy: ¬((y).toNat:Int)=0):binOp .rem T (.int .u8 n) (W8 y)=pure (W8 (Qy2 n.toNat%y)):=by
  rw[Qbe n h0 h1]
  exact Qsz T _ y hy
theorem Qp6 (x:UInt8) (yk:IntKind) (n:Int) (h0:0≤n):binOp .shl T (W8 x) (.int yk n)=pure (W8 (shl8 x n.toNat)):=by
 show binOp .shl T (.int .u8 x.toNat) (.int yk n)=_
 rw[binOp_shl]
 simp only[Op.shift]
 rw[if_neg (by omega),Qew (x:=shl8 x n.toNat)]
 have e:(shl8 x n.toNat).toNat=(x.toNat*2^n.toNat)%256:=by
  show (x.toBitVec <<< n.toNat).toNat=_
  rw[QzU,Qz7]
  rfl
 rw[Qcm,e]
 have hb:IntKind.bits .u8=8:=rfl
 rw[hb]
 rcases Nat.le_total n.toNat 8 with h|h
 ·rw[QzN h]
  have:((2:Int)^n.toNat)=((2^n.toNat:Nat):Int):=by simp
  rw[this,←Qz1]
  omega
 ·rw[Nat.min_eq_right h]
  obtain⟨d,hd⟩:=Nat.exists_eq_add_of_le h
  have e1:x.toNat*2^n.toNat=256*(x.toNat*2^d):=by rw[hd,Qz8];show x.toNat*(256*2^d)=_;rw[QAd]
  rw[e1,Nat.mul_mod_right]
  omega
@[go_sem] theorem Qyh (x:UInt8) (yk:IntKind) (n:Int):binOp .shl T (W8 x) (.int yk n)=if n<0 then runtimePanic (.error "negative shift amount") else pure (W8 (shl8 x n.toNat)):=by
  by_cases h:n<0
  ·rw[if_pos h]
   show binOp .shl T (.int .u8 x.toNat) (.int yk n)=_
   rw[binOp_shl]
   simp only[Op.shift]
   rw[if_pos h]
  ·rw[if_neg h]
   exact Qp6 T x yk n (by omega)
theorem Qn5 (x:UInt8) (yk:IntKind) (n:Int) (h0:0≤n):binOp .shr T (W8 x) (.int yk n)=pure (W8 (shr8 x n.toNat)):=by
 show binOp .shr T (.int .u8 x.toNat) (.int yk n)=_
 rw[binOp_shr]
 simp only[Op.shift]
 rw[if_neg (by omega),Qew (x:=shr8 x n.toNat)]
 have e:(shr8 x n.toNat).toNat=x.toNat/2^n.toNat:=by
  show (x.toBitVec >>> n.toNat).toNat=_
  rw[Qzy,Qzs]
  rfl
 rw[e]
 have hb:IntKind.bits .u8=8:=rfl
 rw[hb]
 have hx:=x.toNat_lt
 have ep:∀m:Nat,((2:Int)^m)=((2^m:Nat):Int):=fun m=>by simp
 rw[ep,Int.fdiv_eq_ediv_of_nonneg _ (Int.natCast_nonneg _),←Int.natCast_ediv]
 rcases Nat.le_total n.toNat 8 with h|h
 ·rw[QzN h]
 ·rw[Nat.min_eq_right h]
  have h1:x.toNat/2^8=0:=Qzq (by simpa using hx)
  have h2:x.toNat/2^n.toNat=0:=Qzq (QyL (by simpa using hx) (QzE (by omega) h))
  rw[h1,h2]
@[go_sem] theorem Qyf (x:UInt8) (yk:IntKind) (n:Int):binOp .shr T (W8 x) (.int yk n)=if n<0 then runtimePanic (.error "negative shift amount") else pure (W8 (shr8 x n.toNat)):=by
  by_cases h:n<0
  ·rw[if_pos h]
   show binOp .shr T (.int .u8 x.toNat) (.int yk n)=_
   rw[binOp_shr]
   simp only[Op.shift]
   rw[if_pos h]
  ·rw[if_neg h]
   exact Qn5 T x yk n (by omega)
@[go_sem] theorem Qx3 (x:UInt8) (n:UInt64):binOp .shl T (W8 x) (W64 n)=pure (W8 (shl8 x (cnt n))):=Qp6 T x .u64 n.toNat (by omega)
@[go_sem] theorem Qyc (x:UInt8) (n:UInt64):binOp .shr T (W8 x) (W64 n)=pure (W8 (shr8 x (cnt n))):=Qn5 T x .u64 n.toNat (by omega)
@[go_sem] theorem QsB (x:UInt8):Op.unary .xor (W8 x)=pure (W8 (~~~x)):=by
  have h:binOp .xor 0 (.int .u8 (255:Int)) (W8 x)=pure (W8 (~~~x)):=by
   rw[Qum 0 x 255 (by omega) (by omega)]
   congr 2
  exact h
end
def Qea (x:UInt32) (n:Nat):UInt32:=⟨x.toBitVec <<< n⟩
def QbJ (x:UInt32) (n:Nat):UInt32:=⟨x.toBitVec >>> n⟩
theorem QcL {x:UInt32} {n:Int} (h:(x.toNat:Int)=n):Value.int .u32 n=W32 x:=by rw[W32,h]
section
variable (T:TypeId) (ox oy:Operand)
@[go_sem] theorem Qt7 (op:BinOp) (x y:UInt32):eqGuard op T ox oy (W32 x) (W32 y)=pure ():=QaL ..
@[go_sem] theorem Qso (op:BinOp) (x:UInt32) (k:IntKind) (y:Int):eqGuard op T ox oy (W32 x) (.int k y)=pure ():=QaL ..
@[go_sem] theorem QsW (op:BinOp) (x:UInt32) (k:IntKind) (y:Int):eqGuard op T ox oy (.int k y) (W32 x)=pure ():=QaL ..
theorem QaV (n:Int) (h0:0≤n) (h1:n<4294967296):Value.int .u32 n=W32 (QyU n.toNat):=by
 apply QcL
 rw[QAe]
 omega
theorem Qpw (n:Int):(UInt32.ofInt n).toNat=(n%4294967296).toNat:=by
 simp[UInt32.ofInt,QAe]
 try omega
theorem Qrt (n:Int):Value.int .u32 (IntKind.wrap .u32 n)=W32 (UInt32.ofInt n):=by
 apply QcL
 rw[QbF]
 have:=Qpw n
 omega
@[go_sem] theorem Qo8 (x y:UInt32):binOp .add T (W32 x) (W32 y)=pure (W32 (x+y)):=by
  show binOp .add T (.int .u32 x.toNat) (.int .u32 y.toNat)=_
  rw[binOp_add]
  simp only[Op.intArith]
  rw[QcL (x:=x+y)]
  rw[QbF,UInt32.toNat_add]
  omega
@[go_sem] theorem QwW (x:UInt32) (n:Int) (h0:0≤n) (h1:n<4294967296):binOp .add T (W32 x) (.int .u32 n)=pure (W32 (x+QyU n.toNat)):=by
  rw[QaV n h0 h1]
  exact Qo8 T x _
@[go_sem] theorem Qwx (y:UInt32) (n:Int) (h0:0≤n) (h1:n<4294967296):binOp .add T (.int .u32 n) (W32 y)=pure (W32 (QyU n.toNat+y)):=by
  rw[QaV n h0 h1]
  exact Qo8 T _ y
@[go_sem] theorem Qob (x y:UInt32):binOp .sub T (W32 x) (W32 y)=pure (W32 (x-y)):=by
  show binOp .sub T (.int .u32 x.toNat) (.int .u32 y.toNat)=_
  rw[binOp_sub]
  simp only[Op.intArith]
  rw[QcL (x:=x-y)]
  rw[QbF,UInt32.toNat_sub]
  have:=y.toNat_lt
  omega
@[go_sem] theorem Qwq (x:UInt32) (n:Int) (h0:0≤n) (h1:n<4294967296):binOp .sub T (W32 x) (.int .u32 n)=pure (W32 (x-QyU n.toNat)):=by
  rw[QaV n h0 h1]
  exact Qob T x _
@[go_sem] theorem Qw7 (y:UInt32) (n:Int) (h0:0≤n) (h1:n<4294967296):binOp .sub T (.int .u32 n) (W32 y)=pure (W32 (QyU n.toNat-y)):=by
  rw[QaV n h0 h1]
  exact Qob T _ y
@[go_sem] theorem QnF (x y:UInt32):binOp .mul T (W32 x) (W32 y)=pure (W32 (x*y)):=by
  show binOp .mul T (.int .u32 x.toNat) (.int .u32 y.toNat)=_
  rw[binOp_mul]
  simp only[Op.intArith]
  rw[QcL (x:=x*y)]
  rw[QbF,UInt32.toNat_mul,←Qz1]
  omega
@[go_sem] theorem Qw2 (x:UInt32) (n:Int) (h0:0≤n) (h1:n<4294967296):binOp .mul T (W32 x) (.int .u32 n)=pure (W32 (x*QyU n.toNat)):=by
  rw[QaV n h0 h1]
  exact QnF T x _
@[go_sem] theorem QwL (y:UInt32) (n:Int) (h0:0≤n) (h1:n<4294967296):binOp .mul T (.int .u32 n) (W32 y)=pure (W32 (QyU n.toNat*y)):=by
  rw[QaV n h0 h1]
  exact QnF T _ y
@[go_sem] theorem QoC (x y:UInt32):binOp .and T (W32 x) (W32 y)=pure (W32 (x &&& y)):=by
  show binOp .and T (.int .u32 x.toNat) (.int .u32 y.toNat)=_
  rw[binOp_and]
  simp only[Op.intBits]
  rw[QcL (x:=x &&& y)]
  have e1:Qzj (IntKind.bits .u32) (x.toNat:Int)=x.toBitVec:=QaE x.toBitVec
  have e2:Qzj (IntKind.bits .u32) (y.toNat:Int)=y.toBitVec:=QaE y.toBitVec
  rw[e1,e2,QbF]
  exact (Qgv (x &&& y)).symm
@[go_sem] theorem Qwj (x:UInt32) (n:Int) (h0:0≤n) (h1:n<4294967296):binOp .and T (W32 x) (.int .u32 n)=pure (W32 (x &&& QyU n.toNat)):=by
  rw[QaV n h0 h1]
  exact QoC T x _
@[go_sem] theorem Qw6 (y:UInt32) (n:Int) (h0:0≤n) (h1:n<4294967296):binOp .and T (.int .u32 n) (W32 y)=pure (W32 (QyU n.toNat &&& y)):=by
  rw[QaV n h0 h1]
  exact QoC T _ y
@[go_sem] theorem Qse (x y:UInt32):binOp .or T (W32 x) (W32 y)=pure (W32 (x ||| y)):=by
  show binOp .or T (.int .u32 x.toNat) (.int .u32 y.toNat)=_
  rw[binOp_or]
  simp only[Op.intBits]
  rw[QcL (x:=x ||| y)]
  have e1:Qzj (IntKind.bits .u32) (x.toNat:Int)=x.toBitVec:=QaE x.toBitVec
  have e2:Qzj (IntKind.bits .u32) (y.toNat:Int)=y.toBitVec:=QaE y.toBitVec
  rw[e1,e2,QbF]
  exact (Qgv (x ||| y)).symm
@[go_sem] theorem Qxl (x:UInt32) (n:Int) (h0:0≤n) (h1:n<4294967296):binOp .or T (W32 x) (.int .u32 n)=pure (W32 (x ||| QyU n.toNat)):=by
  rw[QaV n h0 h1]
  exact Qse T x _
@[go_sem] theorem Qw9 (y:UInt32) (n:Int) (h0:0≤n) (h1:n<4294967296):binOp .or T (.int .u32 n) (W32 y)=pure (W32 (QyU n.toNat ||| y)):=by
  rw[QaV n h0 h1]
  exact Qse T _ y
@[go_sem] theorem QoH (x y:UInt32):binOp .xor T (W32 x) (W32 y)=pure (W32 (x ^^^ y)):=by
  show binOp .xor T (.int .u32 x.toNat) (.int .u32 y.toNat)=_
  rw[binOp_xor]
  simp only[Op.intBits]
  rw[QcL (x:=x ^^^ y)]
  have e1:Qzj (IntKind.bits .u32) (x.toNat:Int)=x.toBitVec:=QaE x.toBitVec
  have e2:Qzj (IntKind.bits .u32) (y.toNat:Int)=y.toBitVec:=QaE y.toBitVec
  rw[e1,e2,QbF]
  exact (Qgv (x ^^^ y)).symm
@[go_sem] theorem QwH (x:UInt32) (n:Int) (h0:0≤n) (h1:n<4294967296):binOp .xor T (W32 x) (.int .u32 n)=pure (W32 (x ^^^ QyU n.toNat)):=by
  rw[QaV n h0 h1]
  exact QoH T x _
@[go_sem] theorem Qq3 (y:UInt32) (n:Int) (h0:0≤n) (h1:n<4294967296):binOp .xor T (.int .u32 n) (W32 y)=pure (W32 (QyU n.toNat ^^^ y)):=by
  rw[QaV n h0 h1]
  exact QoH T _ y
@[go_sem] theorem QkC (x y:UInt32):binOp .eql T (W32 x) (W32 y)=pure (.bool (x==y)):=by
  show binOp .eql T (.int .u32 x.toNat) (.int .u32 y.toNat)=_
  rw[binOp_eql]
  have:((x.toNat:Int)==(y.toNat:Int))=(x==y):=by
   rw[Qy7,beq_iff_eq,beq_iff_eq,←QAt]
   omega
  simp only[this]
@[go_sem] theorem Qwf (x:UInt32) (n:Int) (h0:0≤n) (h1:n<4294967296):binOp .eql T (W32 x) (.int .u32 n)=pure (.bool (x==(QyU n.toNat))):=by
  rw[QaV n h0 h1]
  exact QkC T x _
@[go_sem] theorem QwU (y:UInt32) (n:Int) (h0:0≤n) (h1:n<4294967296):binOp .eql T (.int .u32 n) (W32 y)=pure (.bool ((QyU n.toNat)==y)):=by
  rw[QaV n h0 h1]
  exact QkC T _ y
@[go_sem] theorem QpI (x y:UInt32):binOp .neq T (W32 x) (W32 y)=pure (.bool (x != y)):=by
  show binOp .neq T (.int .u32 x.toNat) (.int .u32 y.toNat)=_
  rw[binOp_neq]
  have:((x.toNat:Int)==(y.toNat:Int))=(x==y):=by
   rw[Qy7,beq_iff_eq,beq_iff_eq,←QAt]
   omega
  simp only[bne,this]
@[go_sem] theorem Qv4 (x:UInt32) (n:Int) (h0:0≤n) (h1:n<4294967296):binOp .neq T (W32 x) (.int .u32 n)=pure (.bool (x != (QyU n.toNat))):=by
  rw[QaV n h0 h1]
  exact QpI T x _
@[go_sem] theorem Qwg (y:UInt32) (n:Int) (h0:0≤n) (h1:n<4294967296):binOp .neq T (.int .u32 n) (W32 y)=pure (.bool ((QyU n.toNat) != y)):=by
  rw[QaV n h0 h1]
  exact QpI T _ y
@[go_sem] theorem Qos (x y:UInt32):binOp .lss T (W32 x) (W32 y)=pure (.bool (decide (x<y))):=by
  show binOp .lss T (.int .u32 x.toNat) (.int .u32 y.toNat)=_
  rw[binOp_lss]
  congr 2
  rw[decide_eq_decide,UInt32.lt_iff_toNat_lt]
  omega
@[go_sem] theorem Qw4 (x:UInt32) (n:Int) (h0:0≤n) (h1:n<4294967296):binOp .lss T (W32 x) (.int .u32 n)=pure (.bool (decide (x<(QyU n.toNat)))):=by
  rw[QaV n h0 h1]
  exact Qos T x _
@[go_sem] theorem QwV (y:UInt32) (n:Int) (h0:0≤n) (h1:n<4294967296):binOp .lss T (.int .u32 n) (W32 y)=pure (.bool (decide ((QyU n.toNat)<y))):=by
  rw[QaV n h0 h1]
  exact Qos T _ y
@[go_sem] theorem Qn9 (x y:UInt32):binOp .leq T (W32 x) (W32 y)=pure (.bool (decide (x≤y))):=by
  show binOp .leq T (.int .u32 x.toNat) (.int .u32 y.toNat)=_
  rw[binOp_leq]
  congr 2
  rw[decide_eq_decide,UInt32.le_iff_toNat_le]
  omega
@[go_sem] theorem QwG (x:UInt32) (n:Int) (h0:0≤n) (h1:n<4294967296):binOp .leq T (W32 x) (.int .u32 n)=pure (.bool (decide (x≤(QyU n.toNat)))):=by
  rw[QaV n h0 h1]
  exact Qn9 T x _
@[go_sem] theorem QwR (y:UInt32) (n:Int) (h0:0≤n) (h1:n<4294967296):binOp .leq T (.int .u32 n) (W32 y)=pure (.bool (decide ((QyU n.toNat)≤y))):=by
  rw[QaV n h0 h1]
  exact Qn9 T _ y
@[go_sem] theorem QnK (x y:UInt32):binOp .gtr T (W32 x) (W32 y)=pure (.bool (decide (y<x))):=by
  show binOp .gtr T (.int .u32 x.toNat) (.int .u32 y.toNat)=_
  rw[binOp_gtr]
  congr 2
  rw[decide_eq_decide,UInt32.lt_iff_toNat_lt]
  omega
@[go_sem] theorem Qw1 (x:UInt32) (n:Int) (h0:0≤n) (h1:n<4294967296):binOp .gtr T (W32 x) (.int .u32 n)=pure (.bool (decide ((QyU n.toNat)<x))):=by
  rw[QaV n h0 h1]
  exact QnK T x _
@[go_sem] theorem Qwt (y:UInt32) (n:Int) (h0:0≤n) (h1:n<4294967296):binOp .gtr T (.int .u32 n) (W32 y)=pure (.bool (decide (y<(QyU n.toNat)))):=by
  rw[QaV n h0 h1]
  exact QnK T _ y
@[go_sem] theorem Qot (x y:UInt32):binOp .geq T (W32 x) (W32 y)=pure (.bool (decide (y≤x))):=by
  show binOp .geq T (.int .u32 x.toNat) (.int .u32 y.toNat)=_
  rw[binOp_geq]
  congr 2
  rw[decide_eq_decide,UInt32.le_iff_toNat_le]
  omega
@[go_sem] theorem Qwz (x:UInt32) (n:Int) (h0:0≤n) (h1:n<4294967296):binOp .geq T (W32 x) (.int .u32 n)=pure (.bool (decide ((QyU n.toNat)≤x))):=by
  rw[QaV n h0 h1]
  exact Qot T x _
@[go_sem] theorem QwN (y:UInt32) (n:Int) (h0:0≤n) (h1:n<4294967296):binOp .geq T (.int .u32 n) (W32 y)=pure (.bool (decide (y≤(QyU n.toNat)))):=by
  rw[QaV n h0 h1]
  exact Qot T _ y
@[go_sem] theorem Qpo (x y:UInt32) (hy: ¬((y).toNat:Int)=0):binOp .quo T (W32 x) (W32 y)=pure (W32 (x/y)):=by
  show binOp .quo T (.int .u32 x.toNat) (.int .u32 y.toNat)=_
  rw[binOp_quo]
  simp only[Op.intDiv]
  rw[if_neg hy,QcL (x:=x/y)]
  rw[QbF,UInt32.toNat_div,Int.tdiv_eq_ediv_of_nonneg (by omega),←Int.natCast_ediv]
  have h1:=Nat.div_le_self x.toNat y.toNat
  have h2:=x.toNat_lt
  generalize x.toNat/y.toNat=q at *
  omega
@[go_sem] theorem Qwk (x:UInt32) (n:Int) (h0:0≤n) (h1:n<4294967296) (hy: ¬((QyU n.toNat).toNat:Int)=0):binOp .quo T (W32 x) (.int .u32 n)=pure (W32 (x/(QyU n.toNat))):=by
  rw[QaV n h0 h1]
  exact Qpo T x _ hy
@[go_sem] theorem QwT (y:UInt32) (n:Int) (h0:0≤n) (h1:n<4294967296) (hy: ¬((y).toNat:Int)=0):binOp .quo T (.int .u32 n) (W32 y)=pure (W32 (QyU n.toNat/y)):=by
  rw[QaV n h0 h1]
  exact Qpo T _ y hy
@[go_sem] theorem Qoy (x y:UInt32) (hy: ¬((y).toNat:Int)=0):binOp .rem T (W32 x) (W32 y)=pure (W32 (x%y)):=by
  show binOp .rem T (.int .u32 x.toNat) (.int .u32 y.toNat)=_
  rw[binOp_rem]
  simp only[Op.intDiv]
  rw[if_neg hy,QcL (x:=x%y)]
  rw[UInt32.toNat_mod,Int.tmod_eq_emod_of_nonneg (by omega),←Int.natCast_emod]
@[go_sem] theorem QlA (x:UInt32) (n:Int) (h0:0≤n) (h1:n<4294967296) (hy: ¬((QyU n.toNat).toNat:Int)=0):binOp .rem T (W32 x) (.int .u32 n)=pure (W32 (x%(QyU n.toNat))):=by
  rw[QaV n h0 h1]
  exact Qoy T x _ hy
@[go_sem] theorem Qwi (y:UInt32) (n:Int) (h0:0≤n) (h1:n<4294967296) (hy: ¬((y).toNat:Int)=0):binOp .rem T (.int .u32 n) (W32 y)=pure (W32 (QyU n.toNat%y)):=by
  rw[QaV n h0 h1]
  exact Qoy T _ y hy
theorem Qlt (x:UInt32) (yk:IntKind) (n:Int) (h0:0≤n):binOp .shl T (W32 x) (.int yk n)=pure (W32 (Qea x n.toNat)):=by
 show binOp .shl T (.int .u32 x.toNat) (.int yk n)=_
 rw[binOp_shl]
 simp only[Op.shift]
 rw[if_neg (by omega),QcL (x:=Qea x n.toNat)]
 have e:(Qea x n.toNat).toNat=(x.toNat*2^n.toNat)%4294967296:=by
  show (x.toBitVec <<< n.toNat).toNat=_
  rw[QzU,Qz7]
  rfl
 rw[QbF,e]
 have hb:IntKind.bits .u32=32:=rfl
 rw[hb]
 rcases Nat.le_total n.toNat 32 with h|h
 ·rw[QzN h]
  have:((2:Int)^n.toNat)=((2^n.toNat:Nat):Int):=by simp
  rw[this,←Qz1]
  omega
 ·rw[Nat.min_eq_right h]
  obtain⟨d,hd⟩:=Nat.exists_eq_add_of_le h
  have e1:x.toNat*2^n.toNat=4294967296*(x.toNat*2^d):=by rw[hd,Qz8];show x.toNat*(4294967296*2^d)=_;rw[QAd]
  rw[e1,Nat.mul_mod_right]
  omega
@[go_sem] theorem Qxw (x:UInt32) (yk:IntKind) (n:Int):binOp .shl T (W32 x) (.int yk n)=if n<0 then runtimePanic (.error "negative shift amount") else pure (W32 (Qea x n.toNat)):=by
  by_cases h:n<0
  ·rw[if_pos h]
   show binOp .shl T (.int .u32 x.toNat) (.int yk n)=_
   rw[binOp_shl]
   simp only[Op.shift]
   rw[if_pos h]
  ·rw[if_neg h]
   exact Qlt T x yk n (by omega)
theorem Qh7 (x:UInt32) (yk:IntKind) (n:Int) (h0:0≤n):binOp .shr T (W32 x) (.int yk n)=pure (W32 (QbJ x n.toNat)):=by
 show binOp .shr T (.int .u32 x.toNat) (.int yk n)=_
 rw[binOp_shr]
 simp only[Op.shift]
 rw[if_neg (by omega),QcL (x:=QbJ x n.toNat)]
 have e:(QbJ x n.toNat).toNat=x.toNat/2^n.toNat:=by
  show (x.toBitVec >>> n.toNat).toNat=_
  rw[Qzy,Qzs]
  rfl
 rw[e]
 have hb:IntKind.bits .u32=32:=rfl
 rw[hb]
 have hx:=x.toNat_lt
 have ep:∀m:Nat,((2:Int)^m)=((2^m:Nat):Int):=fun m=>by simp
 rw[ep,Int.fdiv_eq_ediv_of_nonneg _ (Int.natCast_nonneg _),←Int.natCast_ediv]
 rcases Nat.le_total n.toNat 32 with h|h
 ·rw[QzN h]
 ·rw[Nat.min_eq_right h]
  have h1:x.toNat/2^32=0:=Qzq (by simpa using hx)
  have h2:x.toNat/2^n.toNat=0:=Qzq (QyL (by simpa using hx) (QzE (by omega) h))
  rw[h1,h2]
@[go_sem] theorem QxF (x:UInt32) (yk:IntKind) (n:Int):binOp .shr T (W32 x) (.int yk n)=if n<0 then runtimePanic (.error "negative shift amount") else pure (W32 (QbJ x n.toNat)):=by
  by_cases h:n<0
  ·rw[if_pos h]
   show binOp .shr T (.int .u32 x.toNat) (.int yk n)=_
   rw[binOp_shr]
   simp only[Op.shift]
   rw[if_pos h]
  ·rw[if_neg h]
   exact Qh7 T x yk n (by omega)
@[go_sem] theorem QwI (x:UInt32) (n:UInt64):binOp .shl T (W32 x) (W64 n)=pure (W32 (Qea x (cnt n))):=Qlt T x .u64 n.toNat (by omega)
@[go_sem] theorem Qwy (x:UInt32) (n:UInt64):binOp .shr T (W32 x) (W64 n)=pure (W32 (QbJ x (cnt n))):=Qh7 T x .u64 n.toNat (by omega)
@[go_sem] theorem QrY (x:UInt32):Op.unary .xor (W32 x)=pure (W32 (~~~x)):=by
  have h:binOp .xor 0 (.int .u32 (4294967295:Int)) (W32 x)=pure (W32 (~~~x)):=by
   rw[Qq3 0 x 4294967295 (by omega) (by omega)]
   congr 2
  exact h
end
def Qg8 (x:UInt64) (n:Nat):UInt64:=⟨x.toBitVec <<< n⟩
def Qij (x:UInt64) (n:Nat):UInt64:=⟨x.toBitVec >>> n⟩
theorem QcC {x:UInt64} {n:Int} (h:(x.toNat:Int)=n):Value.int .u64 n=W64 x:=by rw[W64,h]
section
variable (T:TypeId) (ox oy:Operand)
@[go_sem] theorem Qs9 (op:BinOp) (x y:UInt64):eqGuard op T ox oy (W64 x) (W64 y)=pure ():=QaL ..
@[go_sem] theorem Qr6 (op:BinOp) (x:UInt64) (k:IntKind) (y:Int):eqGuard op T ox oy (W64 x) (.int k y)=pure ():=QaL ..
@[go_sem] theorem QsD (op:BinOp) (x:UInt64) (k:IntKind) (y:Int):eqGuard op T ox oy (.int k y) (W64 x)=pure ():=QaL ..
theorem QaP (n:Int) (h0:0≤n) (h1:n<18446744073709551616):Value.int .u64 n=W64 (QyM n.toNat):=by
 apply QcC
 rw[QyP]
 omega
theorem Qji (n:Int):(Qzf n).toNat=(n%18446744073709551616).toNat:=by
 simp[Qzf,QyP]
 try omega
theorem QdN (n:Nat):Qzf (n:Int)=QyM n:=by
 apply Qz9.1
 rw[Qji,QyP]
 omega
theorem Qqp (n:Int):Value.int .u64 (IntKind.wrap .u64 n)=W64 (Qzf n):=by
 apply QcC
 rw[QbG]
 have:=Qji n
 omega
@[go_sem] theorem QkY (x y:UInt64):binOp .add T (W64 x) (W64 y)=pure (W64 (x+y)):=by
  show binOp .add T (.int .u64 x.toNat) (.int .u64 y.toNat)=_
  rw[binOp_add]
  simp only[Op.intArith]
  rw[QcC (x:=x+y)]
  rw[QbG,UInt64.toNat_add]
  omega
@[go_sem] theorem Qws (x:UInt64) (n:Int) (h0:0≤n) (h1:n<18446744073709551616):binOp .add T (W64 x) (.int .u64 n)=pure (W64 (x+QyM n.toNat)):=by
  rw[QaP n h0 h1]
  exact QkY T x _
@[go_sem] theorem QwC (y:UInt64) (n:Int) (h0:0≤n) (h1:n<18446744073709551616):binOp .add T (.int .u64 n) (W64 y)=pure (W64 (QyM n.toNat+y)):=by
  rw[QaP n h0 h1]
  exact QkY T _ y
@[go_sem] theorem Qk6 (x y:UInt64):binOp .sub T (W64 x) (W64 y)=pure (W64 (x-y)):=by
  show binOp .sub T (.int .u64 x.toNat) (.int .u64 y.toNat)=_
  rw[binOp_sub]
  simp only[Op.intArith]
  rw[QcC (x:=x-y)]
  rw[QbG,UInt64.toNat_sub]
  have:=y.toNat_lt
  omega
@[go_sem] theorem Qwn (x:UInt64) (n:Int) (h0:0≤n) (h1:n<18446744073709551616):binOp .sub T (W64 x) (.int .u64 n)=pure (W64 (x-QyM n.toNat)):=by
  rw[QaP n h0 h1]
  exact Qk6 T x _
@[go_sem] theorem Qwu (y:UInt64) (n:Int) (h0:0≤n) (h1:n<18446744073709551616):binOp .sub T (.int .u64 n) (W64 y)=pure (W64 (QyM n.toNat-y)):=by
  rw[QaP n h0 h1]
  exact Qk6 T _ y
@[go_sem] theorem Qko (x y:UInt64):binOp .mul T (W64 x) (W64 y)=pure (W64 (x*y)):=by
  show binOp .mul T (.int .u64 x.toNat) (.int .u64 y.toNat)=_
  rw[binOp_mul]
  simp only[Op.intArith]
  rw[QcC (x:=x*y)]
  rw[QbG,UInt64.toNat_mul,←Qz1]
  omega
@[go_sem] theorem QwA (x:UInt64) (n:Int) (h0:0≤n) (h1:n<18446744073709551616):binOp .mul T (W64 x) (.int .u64 n)=pure (W64 (x*QyM n.toNat)):=by
  rw[QaP n h0 h1]
  exact Qko T x _
@[go_sem] theorem QwS (y:UInt64) (n:Int) (h0:0≤n) (h1:n<18446744073709551616):binOp .mul T (.int .u64 n) (W64 y)=pure (W64 (QyM n.toNat*y)):=by
  rw[QaP n h0 h1]
  exact Qko T _ y
@[go_sem] theorem Qpr (x y:UInt64):binOp .and T (W64 x) (W64 y)=pure (W64 (x &&& y)):=by
  show binOp .and T (.int .u64 x.toNat) (.int .u64 y.toNat)=_
  rw[binOp_and]
  simp only[Op.intBits]
  rw[QcC (x:=x &&& y)]
  have e1:Qzj (IntKind.bits .u64) (x.toNat:Int)=x.toBitVec:=QaE x.toBitVec
  have e2:Qzj (IntKind.bits .u64) (y.toNat:Int)=y.toBitVec:=QaE y.toBitVec
  rw[e1,e2,QbG]
  exact (Qf7 (x &&& y)).symm
@[go_sem] theorem Qiq (x:UInt64) (n:Int) (h0:0≤n) (h1:n<18446744073709551616):binOp .and T (W64 x) (.int .u64 n)=pure (W64 (x &&& QyM n.toNat)):=by
  rw[QaP n h0 h1]
  exact Qpr T x _
@[go_sem] theorem Qv8 (y:UInt64) (n:Int) (h0:0≤n) (h1:n<18446744073709551616):binOp .and T (.int .u64 n) (W64 y)=pure (W64 (QyM n.toNat &&& y)):=by
  rw[QaP n h0 h1]
  exact Qpr T _ y
@[go_sem] theorem Qor (x y:UInt64):binOp .or T (W64 x) (W64 y)=pure (W64 (x ||| y)):=by
  show binOp .or T (.int .u64 x.toNat) (.int .u64 y.toNat)=_
  rw[binOp_or]
  simp only[Op.intBits]
  rw[QcC (x:=x ||| y)]
  have e1:Qzj (IntKind.bits .u64) (x.toNat:Int)=x.toBitVec:=QaE x.toBitVec
  have e2:Qzj (IntKind.bits .u64) (y.toNat:Int)=y.toBitVec:=QaE y.toBitVec
  rw[e1,e2,QbG]
  exact (Qf7 (x ||| y)).symm
@[go_sem] theorem Qx9 (x:UInt64) (n:Int) (h0:0≤n) (h1:n<18446744073709551616):binOp .or T (W64 x) (.int .u64 n)=pure (W64 (x ||| QyM n.toNat)):=by
  rw[QaP n h0 h1]
  exact Qor T x _
@[go_sem] theorem Qx5 (y:UInt64) (n:Int) (h0:0≤n) (h1:n<18446744073709551616):binOp .or T (.int .u64 n) (W64 y)=pure (W64 (QyM n.toNat ||| y)):=by
  rw[QaP n h0 h1]
  exact Qor T _ y
@[go_sem] theorem QnQ (x y:UInt64):binOp .xor T (W64 x) (W64 y)=pure (W64 (x ^^^ y)):=by
  show binOp .xor T (.int .u64 x.toNat) (.int .u64 y.toNat)=_
  rw[binOp_xor]
  simp only[Op.intBits]
  rw[QcC (x:=x ^^^ y)]
  have e1:Qzj (IntKind.bits .u64) (x.toNat:Int)=x.toBitVec:=QaE x.toBitVec
  have e2:Qzj (IntKind.bits .u64) (y.toNat:Int)=y.toBitVec:=QaE y.toBitVec
  rw[e1,e2,QbG]
  exact (Qf7 (x ^^^ y)).symm
@[go_sem] theorem Qwa (x:UInt64) (n:Int) (h0:0≤n) (h1:n<18446744073709551616):binOp .xor T (W64 x) (.int .u64 n)=pure (W64 (x ^^^ QyM n.toNat)):=by
  rw[QaP n h0 h1]
  exact QnQ T x _
@[go_sem] theorem Qqo (y:UInt64) (n:Int) (h0:0≤n) (h1:n<18446744073709551616):binOp .xor T (.int .u64 n) (W64 y)=pure (W64 (QyM n.toNat ^^^ y)):=by
  rw[QaP n h0 h1]
  exact QnQ T _ y
@[go_sem] theorem QkV (x y:UInt64):binOp .eql T (W64 x) (W64 y)=pure (.bool (x==y)):=by
  show binOp .eql T (.int .u64 x.toNat) (.int .u64 y.toNat)=_
  rw[binOp_eql]
  have:((x.toNat:Int)==(y.toNat:Int))=(x==y):=by
   rw[Qy7,beq_iff_eq,beq_iff_eq,←Qz9]
   omega
  simp only[this]
@[go_sem] theorem QwK (x:UInt64) (n:Int) (h0:0≤n) (h1:n<18446744073709551616):binOp .eql T (W64 x) (.int .u64 n)=pure (.bool (x==(QyM n.toNat))):=by
  rw[QaP n h0 h1]
  exact QkV T x _
@[go_sem] theorem QwZ (y:UInt64) (n:Int) (h0:0≤n) (h1:n<18446744073709551616):binOp .eql T (.int .u64 n) (W64 y)=pure (.bool ((QyM n.toNat)==y)):=by
  rw[QaP n h0 h1]
  exact QkV T _ y
@[go_sem] theorem Qqh (x y:UInt64):binOp .neq T (W64 x) (W64 y)=pure (.bool (x != y)):=by
  show binOp .neq T (.int .u64 x.toNat) (.int .u64 y.toNat)=_
  rw[binOp_neq]
  have:((x.toNat:Int)==(y.toNat:Int))=(x==y):=by
   rw[Qy7,beq_iff_eq,beq_iff_eq,←Qz9]
   omega
  simp only[bne,this]
@[go_sem] theorem QwX (x:UInt64) (n:Int) (h0:0≤n) (h1:n<18446744073709551616):binOp .neq T (W64 x) (.int .u64 n)=pure (.bool (x != (QyM n.toNat))):=by
  rw[QaP n h0 h1]
  exact Qqh T x _
@[go_sem] theorem Qwd (y:UInt64) (n:Int) (h0:0≤n) (h1:n<18446744073709551616):binOp .neq T (.int .u64 n) (W64 y)=pure (.bool ((QyM n.toNat) != y)):=by
  rw[QaP n h0 h1]
  exact Qqh T _ y
@[go_sem] theorem Qj1 (x y:UInt64):binOp .lss T (W64 x) (W64 y)=pure (.bool (decide (x<y))):=by
  show binOp .lss T (.int .u64 x.toNat) (.int .u64 y.toNat)=_
  rw[binOp_lss]
  congr 2
  rw[decide_eq_decide,UInt64.lt_iff_toNat_lt]
  omega
@[go_sem] theorem Qwm (x:UInt64) (n:Int) (h0:0≤n) (h1:n<18446744073709551616):binOp .lss T (W64 x) (.int .u64 n)=pure (.bool (decide (x<(QyM n.toNat)))):=by
  rw[QaP n h0 h1]
  exact Qj1 T x _
@[go_sem] theorem Qww (y:UInt64) (n:Int) (h0:0≤n) (h1:n<18446744073709551616):binOp .lss T (.int .u64 n) (W64 y)=pure (.bool (decide ((QyM n.toNat)<y))):=by
  rw[QaP n h0 h1]
  exact Qj1 T _ y
@[go_sem] theorem Qpt (x y:UInt64):binOp .leq T (W64 x) (W64 y)=pure (.bool (decide (x≤y))):=by
  show binOp .leq T (.int .u64 x.toNat) (.int .u64 y.toNat)=_
  rw[binOp_leq]
  congr 2
  rw[decide_eq_decide,UInt64.le_iff_toNat_le]
  omega
@[go_sem] theorem Qwc (x:UInt64) (n:Int) (h0:0≤n) (h1:n<18446744073709551616):binOp .leq T (W64 x) (.int .u64 n)=pure (.bool (decide (x≤(QyM n.toNat)))):=by
  rw[QaP n h0 h1]
  exact Qpt T x _
@[go_sem] theorem QwM (y:UInt64) (n:Int) (h0:0≤n) (h1:n<18446744073709551616):binOp .leq T (.int .u64 n) (W64 y)=pure (.bool (decide ((QyM n.toNat)≤y))):=by
  rw[QaP n h0 h1]
  exact Qpt T _ y
@[go_sem] theorem Qj7 (x y:UInt64):binOp .gtr T (W64 x) (W64 y)=pure (.bool (decide (y<x))):=by
  show binOp .gtr T (.int .u64 x.toNat) (.int .u64 y.toNat)=_
  rw[binOp_gtr]
  congr 2
  rw[decide_eq_decide,UInt64.lt_iff_toNat_lt]
  omega
@[go_sem] theorem Qw3 (x:UInt64) (n:Int) (h0:0≤n) (h1:n<18446744073709551616):binOp .gtr T (W64 x) (.int .u64 n)=pure (.bool (decide ((QyM n.toNat)<x))):=by
  rw[QaP n h0 h1]
  exact Qj7 T x _
@[go_sem] theorem Qv7 (y:UInt64) (n:Int) (h0:0≤n) (h1:n<18446744073709551616):binOp .gtr T (.int .u64 n) (W64 y)=pure (.bool (decide (y<(QyM n.toNat)))):=by
  rw[QaP n h0 h1]
  exact Qj7 T _ y
@[go_sem] theorem Qqk (x y:UInt64):binOp .geq T (W64 x) (W64 y)=pure (.bool (decide (y≤x))):=by
  show binOp .geq T (.int .u64 x.toNat) (.int .u64 y.toNat)=_
  rw[binOp_geq]
  congr 2
  rw[decide_eq_decide,UInt64.le_iff_toNat_le]
  omega
@[go_sem] theorem Qw5 (x:UInt64) (n:Int) (h0:0≤n) (h1:n<18446744073709551616):binOp .geq T (W64 x) (.int .u64 n)=pure (.bool (decide ((QyM n.toNat)≤x))):=by
  rw[QaP n h0 h1]
  exact Qqk T x _
@[go_sem] theorem QwE (y:UInt64) (n:Int) (h0:0≤n) (h1:n<18446744073709551616):binOp .geq T (.int .u64 n) (W64 y)=pure (.bool (decide (y≤(QyM n.toNat)))):=by
  rw[QaP n h0 h1]
  exact Qqk T _ y
@[go_sem] theorem Qpq (x y:UInt64) (hy: ¬((y).toNat:Int)=0):binOp .quo T (W64 x) (W64 y)=pure (W64 (x/y)):=by
  show binOp .quo T (.int .u64 x.toNat) (.int .u64 y.toNat)=_
  rw[binOp_quo]
  simp only[Op.intDiv]
  rw[if_neg hy,QcC (x:=x/y)]
  rw[QbG,UInt64.toNat_div,Int.tdiv_eq_ediv_of_nonneg (by omega),←Int.natCast_ediv]
  have h1:=Nat.div_le_self x.toNat y.toNat
  have h2:=x.toNat_lt
  generalize x.toNat/y.toNat=q at *
  omega
@[go_sem] theorem QwJ (x:UInt64) (n:Int) (h0:0≤n) (h1:n<18446744073709551616) (hy: ¬((QyM n.toNat).toNat:Int)=0):binOp .quo T (W64 x) (.int .u64 n)=pure (W64 (x/(QyM n.toNat))):=by
  rw[QaP n h0 h1]
  exact Qpq T x _ hy
@[go_sem] theorem Qwp (y:UInt64) (n:Int) (h0:0≤n) (h1:n<18446744073709551616) (hy: ¬((y).toNat:Int)=0):binOp .quo T (.int .u64 n) (W64 y)=pure (W64 (QyM n.toNat/y)):=by
  rw[QaP n h0 h1]
  exact Qpq T _ y hy
@[go_sem] theorem Qnz (x y:UInt64) (hy: ¬((y).toNat:Int)=0):binOp .rem T (W64 x) (W64 y)=pure (W64 (x%y)):=by
  show binOp .rem T (.int .u64 x.toNat) (.int .u64 y.toNat)=_
  rw[binOp_rem]
  simp only[Op.intDiv]
  rw[if_neg hy,QcC (x:=x%y)]
  rw[UInt64.toNat_mod,Int.tmod_eq_emod_of_nonneg (by omega),←Int.natCast_emod]
@[go_sem] theorem Qq1 (x:UInt64) (n:Int) (h0:0≤n) (h1:n<18446744073709551616) (hy: ¬((QyM n.toNat).toNat:Int)=0):binOp .rem T (W64 x) (.int .u64 n)=pure (W64 (x%(QyM n.toNat))):=by
  rw[QaP n h0 h1]
  exact Qnz T x _ hy
@[go_sem] theorem Qwv (y:UInt64) (n:Int) (h0:0≤n) (h1:n<18446744073709551616) (hy: ¬((y).toNat:Int)=0):binOp .rem T (.int .u64 n) (W64 y)=pure (W64 (QyM n.toNat%y)):=by
  rw[QaP n h0 h1]
  exact Qnz T _ y hy
theorem QiJ (x:UInt64) (yk:IntKind) (n:Int) (h0:0≤n):binOp .shl T (W64 x) (.int yk n)=pure (W64 (Qg8 x n.toNat)):=by
 show binOp .shl T (.int .u64 x.toNat) (.int yk n)=_
 rw[binOp_shl]
 simp only[Op.shift]
 rw[if_neg (by omega),QcC (x:=Qg8 x n.toNat)]
 have e:(Qg8 x n.toNat).toNat=(x.toNat*2^n.toNat)%18446744073709551616:=by
  show (x.toBitVec <<< n.toNat).toNat=_
  rw[QzU,Qz7]
  rfl
 rw[QbG,e]
 have hb:IntKind.bits .u64=64:=rfl
 rw[hb]
 rcases Nat.le_total n.toNat 64 with h|h
 ·rw[QzN h]
  have:((2:Int)^n.toNat)=((2^n.toNat:Nat):Int):=by simp
  rw[this,←Qz1]
  omega
 ·rw[Nat.min_eq_right h]
  obtain⟨d,hd⟩:=Nat.exists_eq_add_of_le h
  have e1:x.toNat*2^n.toNat=18446744073709551616*(x.toNat*2^d):=by rw[hd,Qz8];show x.toNat*(18446744073709551616*2^d)=_;rw[QAd]
  rw[e1,Nat.mul_mod_right]
  omega
@[go_sem] theorem QxZ (x:UInt64) (yk:IntKind) (n:Int):binOp .shl T (W64 x) (.int yk n)=if n<0 then runtimePanic (.error "negative shift amount") else pure (W64 (Qg8 x n.toNat)):=by
  by_cases h:n<0
  ·rw[if_pos h]
   show binOp .shl T (.int .u64 x.toNat) (.int yk n)=_
   rw[binOp_shl]
   simp only[Op.shift]
   rw[if_pos h]
  ·rw[if_neg h]
   exact QiJ T x yk n (by omega)
theorem QiP (x:UInt64) (yk:IntKind) (n:Int) (h0:0≤n):binOp .shr T (W64 x) (.int yk n)=pure (W64 (Qij x n.toNat)):=by
 show binOp .shr T (.int .u64 x.toNat) (.int yk n)=_
 rw[binOp_shr]
 simp only[Op.shift]
 rw[if_neg (by omega),QcC (x:=Qij x n.toNat)]
 have e:(Qij x n.toNat).toNat=x.toNat/2^n.toNat:=by
  show (x.toBitVec >>> n.toNat).toNat=_
  rw[Qzy,Qzs]
  rfl
 rw[e]
 have hb:IntKind.bits .u64=64:=rfl
 rw[hb]
 have hx:=x.toNat_lt
 have ep:∀m:Nat,((2:Int)^m)=((2^m:Nat):Int):=fun m=>by simp
 rw[ep,Int.fdiv_eq_ediv_of_nonneg _ (Int.natCast_nonneg _),←Int.natCast_ediv]
 rcases Nat.le_total n.toNat 64 with h|h
 ·rw[QzN h]
 ·rw[Nat.min_eq_right h]
  have h1:x.toNat/2^64=0:=Qzq (by simpa using hx)
  have h2:x.toNat/2^n.toNat=0:=Qzq (QyL (by simpa using hx) (QzE (by omega) h))
  rw[h1,h2]
@[go_sem] theorem QxQ (x:UInt64) (yk:IntKind) (n:Int):binOp .shr T (W64 x) (.int yk n)=if n<0 then runtimePanic (.error "negative shift amount") else pure (W64 (Qij x n.toNat)):=by
  by_cases h:n<0
  ·rw[if_pos h]
   show binOp .shr T (.int .u64 x.toNat) (.int yk n)=_
   rw[binOp_shr]
   simp only[Op.shift]
   rw[if_pos h]
  ·rw[if_neg h]
   exact QiP T x yk n (by omega)
@[go_sem] theorem QwO (x:UInt64) (n:UInt64):binOp .shl T (W64 x) (W64 n)=pure (W64 (Qg8 x (cnt n))):=QiJ T x .u64 n.toNat (by omega)
@[go_sem] theorem QwQ (x:UInt64) (n:UInt64):binOp .shr T (W64 x) (W64 n)=pure (W64 (Qij x (cnt n))):=QiP T x .u64 n.toNat (by omega)
@[go_sem] theorem QrZ (x:UInt64):Op.unary .xor (W64 x)=pure (W64 (~~~x)):=by
  have h:binOp .xor 0 (.int .u64 (18446744073709551615:Int)) (W64 x)=pure (W64 (~~~x)):=by
   rw[Qqo 0 x 18446744073709551615 (by omega) (by omega)]
   congr 2
  exact h
end
section
variable {P:Program} (w:World) (S D:TypeId)
@[go_sem] theorem Qni (x:UInt8) (hs:(P.underlying S).isSome=true) (hd:P.underlying D=some (.int .u8)):(convert S D (W8 x)).run P w= .ok (W8 x) w:=by
  have h:=run_convert_int (P:=P) (w:=w) S D .u8 x.toNat hs (by unfold Program.intKind;rw[hd])
  have e:P.intKind D= .u8:=by unfold Program.intKind;rw[hd]
  rw[e]at h
  refine h.trans ?_
  rw[Qew (x:=x)]
  rw[Qcm]
  have:=x.toNat_lt
  skip
  omega
@[go_sem] theorem Qlx (x:UInt8) (hs:(P.underlying S).isSome=true) (hd:P.underlying D=some (.int .u32)):(convert S D (W8 x)).run P w= .ok (W32 x.toUInt32) w:=by
  have h:=run_convert_int (P:=P) (w:=w) S D .u8 x.toNat hs (by unfold Program.intKind;rw[hd])
  have e:P.intKind D= .u32:=by unfold Program.intKind;rw[hd]
  rw[e]at h
  refine h.trans ?_
  rw[QcL (x:=x.toUInt32)]
  rw[QbF]
  have:=x.toNat_lt
  rw[UInt8.toNat_toUInt32]
  omega
@[go_sem] theorem QlN (x:UInt8) (hs:(P.underlying S).isSome=true) (hd:P.underlying D=some (.int .u64)):(convert S D (W8 x)).run P w= .ok (W64 x.toUInt64) w:=by
  have h:=run_convert_int (P:=P) (w:=w) S D .u8 x.toNat hs (by unfold Program.intKind;rw[hd])
  have e:P.intKind D= .u64:=by unfold Program.intKind;rw[hd]
  rw[e]at h
  refine h.trans ?_
  rw[QcC (x:=x.toUInt64)]
  rw[QbG]
  have:=x.toNat_lt
  rw[UInt8.toNat_toUInt64]
  omega
@[go_sem] theorem QlQ (x:UInt8) (hs:(P.underlying S).isSome=true) (hd:P.underlying D=some (.int .i64)):(convert S D (W8 x)).run P w= .ok (.int .i64 (IntKind.i64.wrap x.toNat)) w:=by
  have h:=run_convert_int (P:=P) (w:=w) S D .u8 x.toNat hs (by unfold Program.intKind;rw[hd])
  have e:P.intKind D= .i64:=by unfold Program.intKind;rw[hd]
  rw[e]at h
  exact h
@[go_sem] theorem Qe6 (x:UInt32) (hs:(P.underlying S).isSome=true) (hd:P.underlying D=some (.int .u8)):(convert S D (W32 x)).run P w= .ok (W8 x.toUInt8) w:=by
  have h:=run_convert_int (P:=P) (w:=w) S D .u32 x.toNat hs (by unfold Program.intKind;rw[hd])
  have e:P.intKind D= .u8:=by unfold Program.intKind;rw[hd]
  rw[e]at h
  refine h.trans ?_
  rw[Qew (x:=x.toUInt8)]
  rw[Qcm]
  skip
  rw[UInt32.toNat_toUInt8]
  omega
@[go_sem] theorem Qld (x:UInt32) (hs:(P.underlying S).isSome=true) (hd:P.underlying D=some (.int .u32)):(convert S D (W32 x)).run P w= .ok (W32 x) w:=by
  have h:=run_convert_int (P:=P) (w:=w) S D .u32 x.toNat hs (by unfold Program.intKind;rw[hd])
  have e:P.intKind D= .u32:=by unfold Program.intKind;rw[hd]
  rw[e]at h
  refine h.trans ?_
  rw[QcL (x:=x)]
  rw[QbF]
  have:=x.toNat_lt
  skip
  omega
@[go_sem] theorem Qes (x:UInt32) (hs:(P.underlying S).isSome=true) (hd:P.underlying D=some (.int .u64)):(convert S D (W32 x)).run P w= .ok (W64 x.toUInt64) w:=by
  have h:=run_convert_int (P:=P) (w:=w) S D .u32 x.toNat hs (by unfold Program.intKind;rw[hd])
  have e:P.intKind D= .u64:=by unfold Program.intKind;rw[hd]
  rw[e]at h
  refine h.trans ?_
  rw[QcC (x:=x.toUInt64)]
  rw[QbG]
  have:=x.toNat_lt
  rw[UInt32.toNat_toUInt64]
  omega
@[go_sem] theorem QkJ (x:UInt32) (hs:(P.underlying S).isSome=true) (hd:P.underlying D=some (.int .i64)):(convert S D (W32 x)).run P w= .ok (.int .i64 (IntKind.i64.wrap x.toNat)) w:=by
  have h:=run_convert_int (P:=P) (w:=w) S D .u32 x.toNat hs (by unfold Program.intKind;rw[hd])
  have e:P.intKind D= .i64:=by unfold Program.intKind;rw[hd]
  rw[e]at h
  exact h
@[go_sem] theorem QeG (x:UInt64) (hs:(P.underlying S).isSome=true) (hd:P.underlying D=some (.int .u8)):(convert S D (W64 x)).run P w= .ok (W8 x.toUInt8) w:=by
  have h:=run_convert_int (P:=P) (w:=w) S D .u64 x.toNat hs (by unfold Program.intKind;rw[hd])
  have e:P.intKind D= .u8:=by unfold Program.intKind;rw[hd]
  rw[e]at h
  refine h.trans ?_
  rw[Qew (x:=x.toUInt8)]
  rw[Qcm]
  skip
  rw[UInt64.toNat_toUInt8]
  omega
@[go_sem] theorem Qep (x:UInt64) (hs:(P.underlying S).isSome=true) (hd:P.underlying D=some (.int .u32)):(convert S D (W64 x)).run P w= .ok (W32 x.toUInt32) w:=by
  have h:=run_convert_int (P:=P) (w:=w) S D .u64 x.toNat hs (by unfold Program.intKind;rw[hd])
  have e:P.intKind D= .u32:=by unfold Program.intKind;rw[hd]
  rw[e]at h
  refine h.trans ?_
  rw[QcL (x:=x.toUInt32)]
  rw[QbF]
  skip
  rw[UInt64.toNat_toUInt32]
  omega
@[go_sem] theorem Qkx (x:UInt64) (hs:(P.underlying S).isSome=true) (hd:P.underlying D=some (.int .u64)):(convert S D (W64 x)).run P w= .ok (W64 x) w:=by
  have h:=run_convert_int (P:=P) (w:=w) S D .u64 x.toNat hs (by unfold Program.intKind;rw[hd])
  have e:P.intKind D= .u64:=by unfold Program.intKind;rw[hd]
  rw[e]at h
  refine h.trans ?_
  rw[QcC (x:=x)]
  rw[QbG]
  have:=x.toNat_lt
  skip
  omega
@[go_sem] theorem Qlc (x:UInt64) (hs:(P.underlying S).isSome=true) (hd:P.underlying D=some (.int .i64)):(convert S D (W64 x)).run P w= .ok (.int .i64 (IntKind.i64.wrap x.toNat)) w:=by
  have h:=run_convert_int (P:=P) (w:=w) S D .u64 x.toNat hs (by unfold Program.intKind;rw[hd])
  have e:P.intKind D= .i64:=by unfold Program.intKind;rw[hd]
  rw[e]at h
  exact h
end
@[go_sem] theorem Qsn (P:Program) (w:World) (a:Addr) (m:Mode) (x:UInt8):(store a (W8 x) m).run P w=stored P w a (W8 x) m:=run_store P w a _ m rfl
@[go_sem ↓] theorem Qv5 (x:UInt8):(W8 x).cells= #[W8 x]:=rfl
@[go_sem] theorem Qqu (P:Program) (w:World) (a:Addr) (m:Mode) (x:UInt32):(store a (W32 x) m).run P w=stored P w a (W32 x) m:=run_store P w a _ m rfl
@[go_sem ↓] theorem Qvv (x:UInt32):(W32 x).cells= #[W32 x]:=rfl
@[go_sem] theorem QqY (P:Program) (w:World) (a:Addr) (m:Mode) (x:UInt64):(store a (W64 x) m).run P w=stored P w a (W64 x) m:=run_store P w a _ m rfl
@[go_sem ↓] theorem QvN (x:UInt64):(W64 x).cells= #[W64 x]:=rfl
attribute [go_sem] Qug Qrt Qqp
end Go.Proofs.YtcbdgnlcknllnaaGreat
