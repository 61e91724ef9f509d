/-
  Lemmas for the last text of this claim (part 2 of 20).
-/
import Derived.ArgAppend
import Derived.BigQuiet
import Derived.BigRegion
import Derived.ChangeOld
import Derived.Deep.RegionWith
import Derived.DeepKeys4
import Derived.JoinedCond
import Derived.LaidMore
import Derived.Laws.BytesArg
import Derived.Laws.CopyOwn
import Derived.Laws.Externs
import Derived.Laws.IdiomStrings
import Derived.Laws.Tables
import Derived.Lib.AppendStr
import Derived.Lib.AppendZerosOnto
import Derived.Lib.Mul64
import Derived.Lib.SlBytesConst
import Derived.LoopN
import Derived.Maps.OwnSet
import Derived.OpenShut
import Derived.OrdersHeld
import Derived.ProofKit
import Derived.Shelf.Spec.BitsCarry
import Derived.ShutString
import Derived.Test.YtdhgpkdjdmlphaaGreatProg
import Derived.Test.YtdhgpkdjdmlphaaGreatRows
import Derived.WalkKit
import Derived.WalkLawsBesides
import Derived.WalkSpells
import Derived.Test.YtdhgpkdjdmlphaaGreatPA
open BitVec renaming toNat_ushiftRight → Qzd, ofInt → Qzt
open Bool renaming eq_iff_iff → Qy7
open Int renaming natCast_mul → QzS
open Nat renaming lt_of_lt_of_le → QyG, shiftRight_eq_div_pow → Qza, div_eq_of_lt → Qzv, min_eq_left → QzD, pow_le_pow_right → QzJ, pow_add → QzX, mul_left_comm → QAg
open UInt32 renaming ofNat → QyX, ofInt → QzM
open UInt64 renaming ofNat → QyO, toNat_ofNat' → QyR, ofInt → Qy8, toNat_inj → Qz9, toNat_toUInt8 → QAc
open UInt8 renaming ofNat → QyP, ofInt → Qy1, toNat_ofNat' → Qzl, toNat_inj → Qzp, lt_iff_toNat_lt → QzU
set_option linter.all false
namespace Go.Proofs.YtdhgpkdjdmlphaaGreat
open Go.RowKit
def W8 (x:UInt8):Value:=.int .u8 (x.toNat:Int)
def W32 (x:UInt32):Value:=.int .u32 (x.toNat:Int)
def W64 (x:UInt64):Value:=.int .u64 (x.toNat:Int)
theorem Qcx (n:Int):IntKind.u8.wrap n=n%256:=by simp[IntKind.wrap,IntKind.bits,IntKind.signed]
theorem QbR (n:Int):IntKind.u32.wrap n=n%4294967296:=by simp[IntKind.wrap,IntKind.bits,IntKind.signed]
theorem QbP (n:Int):IntKind.u64.wrap n=n%18446744073709551616:=by simp[IntKind.wrap,IntKind.bits,IntKind.signed]
theorem QaF {k:Nat} (x:BitVec k):Qzt k (x.toNat:Int)=x:=by
 apply BitVec.eq_of_toNat_eq
 simp
theorem QiQ (x:UInt8):((x.toNat:Int)%256)=x.toNat:=by have:=x.toNat_lt;omega
theorem QgT (x:UInt32):((x.toNat:Int)%4294967296)=x.toNat:=by have:=x.toNat_lt;omega
theorem Qg8 (x:UInt64):((x.toNat:Int)%18446744073709551616)=x.toNat:=by have:=x.toNat_lt;omega
def cnt (n:UInt64):Nat:=n.toNat
theorem QaL (T:TypeId) (ox oy:Operand) (op:BinOp) (k k':IntKind) (x y:Int):eqGuard op T ox oy (.int k x) (.int k' y)=pure ():=by
 cases op<;>rfl
def shl8 (x:UInt8) (n:Nat):UInt8:=⟨x.toBitVec <<< n⟩
def shr8 (x:UInt8) (n:Nat):UInt8:=⟨x.toBitVec >>> n⟩
theorem QeL {x:UInt8} {n:Int} (h:(x.toNat:Int)=n):Value.int .u8 n=W8 x:=by rw[W8,h]
section
variable (T:TypeId) (ox oy:Operand)
@[go_sem] theorem Qux (op:BinOp) (x y:UInt8):eqGuard op T ox oy (W8 x) (W8 y)=pure ():=QaL ..
@[go_sem] theorem QsS (op:BinOp) (x:UInt8) (k:IntKind) (y:Int):eqGuard op T ox oy (W8 x) (.int k y)=pure ():=QaL ..
@[go_sem] theorem Qta (op:BinOp) (x:UInt8) (k:IntKind) (y:Int):eqGuard op T ox oy (.int k y) (W8 x)=pure ():=QaL ..
theorem Qa5 (n:Int) (h0:0≤n) (h1:n<256):Value.int .u8 n=W8 (QyP n.toNat):=by
 apply QeL
 rw[Qzl]
 omega
theorem Qrg (n:Int):(Qy1 n).toNat=(n%256).toNat:=by
 simp[Qy1,Qzl]
 try omega
theorem QtV (n:Int):Value.int .u8 (IntKind.wrap .u8 n)=W8 (Qy1 n):=by
 apply QeL
 rw[Qcx]
 have:=Qrg n
 omega
@[go_sem] theorem QsI (x y:UInt8):binOp .add T (W8 x) (W8 y)=pure (W8 (x+y)):=by
  show binOp .add T (.int .u8 x.toNat) (.int .u8 y.toNat)=_
  rw[binOp_add]
  simp only[Op.intArith]
  rw[QeL (x:=x+y)]
  rw[Qcx,UInt8.toNat_add]
  omega
@[go_sem] theorem Qxu (x:UInt8) (n:Int) (h0:0≤n) (h1:n<256):binOp .add T (W8 x) (.int .u8 n)=pure (W8 (x+QyP n.toNat)):=by
  rw[Qa5 n h0 h1]
  exact QsI T x _
@[go_sem] theorem Qw5 (y:UInt8) (n:Int) (h0:0≤n) (h1:n<256):binOp .add T (.int .u8 n) (W8 y)=pure (W8 (QyP n.toNat+y)):=by
  rw[Qa5 n h0 h1]
  exact QsI T _ y
@[go_sem] theorem QrY (x y:UInt8):binOp .sub T (W8 x) (W8 y)=pure (W8 (x-y)):=by
  show binOp .sub T (.int .u8 x.toNat) (.int .u8 y.toNat)=_
  rw[binOp_sub]
  simp only[Op.intArith]
  rw[QeL (x:=x-y)]
  rw[Qcx,UInt8.toNat_sub]
  have:=y.toNat_lt
  omega
@[go_sem] theorem Qyb (x:UInt8) (n:Int) (h0:0≤n) (h1:n<256):binOp .sub T (W8 x) (.int .u8 n)=pure (W8 (x-QyP n.toNat)):=by
  rw[Qa5 n h0 h1]
  exact QrY T x _
@[go_sem] theorem Qyc (y:UInt8) (n:Int) (h0:0≤n) (h1:n<256):binOp .sub T (.int .u8 n) (W8 y)=pure (W8 (QyP n.toNat-y)):=by
  rw[Qa5 n h0 h1]
  exact QrY T _ y
@[go_sem] theorem QrV (x y:UInt8):binOp .mul T (W8 x) (W8 y)=pure (W8 (x*y)):=by
  show binOp .mul T (.int .u8 x.toNat) (.int .u8 y.toNat)=_
  rw[binOp_mul]
  simp only[Op.intArith]
  rw[QeL (x:=x*y)]
  rw[Qcx,UInt8.toNat_mul,←QzS]
  omega
@[go_sem] theorem Qxz (x:UInt8) (n:Int) (h0:0≤n) (h1:n<256):binOp .mul T (W8 x) (.int .u8 n)=pure (W8 (x*QyP n.toNat)):=by
  rw[Qa5 n h0 h1]
  exact QrV T x _
@[go_sem] theorem Qx9 (y:UInt8) (n:Int) (h0:0≤n) (h1:n<256):binOp .mul T (.int .u8 n) (W8 y)=pure (W8 (QyP n.toNat*y)):=by
  rw[Qa5 n h0 h1]
  exact QrV T _ y
@[go_sem] theorem Qsz (x y:UInt8):binOp .and T (W8 x) (W8 y)=pure (W8 (x &&& y)):=by
  show binOp .and T (.int .u8 x.toNat) (.int .u8 y.toNat)=_
  rw[binOp_and]
  simp only[Op.intBits]
  rw[QeL (x:=x &&& y)]
  have e1:Qzt (IntKind.bits .u8) (x.toNat:Int)=x.toBitVec:=QaF x.toBitVec
  have e2:Qzt (IntKind.bits .u8) (y.toNat:Int)=y.toBitVec:=QaF y.toBitVec
  rw[e1,e2,Qcx]
  exact (QiQ (x &&& y)).symm
@[go_sem] theorem Qxg (x:UInt8) (n:Int) (h0:0≤n) (h1:n<256):binOp .and T (W8 x) (.int .u8 n)=pure (W8 (x &&& QyP n.toNat)):=by
  rw[Qa5 n h0 h1]
  exact Qsz T x _
@[go_sem] theorem QxQ (y:UInt8) (n:Int) (h0:0≤n) (h1:n<256):binOp .and T (.int .u8 n) (W8 y)=pure (W8 (QyP n.toNat &&& y)):=by
  rw[Qa5 n h0 h1]
  exact Qsz T _ y
@[go_sem] theorem QvM (x y:UInt8):binOp .or T (W8 x) (W8 y)=pure (W8 (x ||| y)):=by
  show binOp .or T (.int .u8 x.toNat) (.int .u8 y.toNat)=_
  rw[binOp_or]
  simp only[Op.intBits]
  rw[QeL (x:=x ||| y)]
  have e1:Qzt (IntKind.bits .u8) (x.toNat:Int)=x.toBitVec:=QaF x.toBitVec
  have e2:Qzt (IntKind.bits .u8) (y.toNat:Int)=y.toBitVec:=QaF y.toBitVec
  rw[e1,e2,Qcx]
  exact (QiQ (x ||| y)).symm
@[go_sem] theorem Qyg (x:UInt8) (n:Int) (h0:0≤n) (h1:n<256):binOp .or T (W8 x) (.int .u8 n)=pure (W8 (x ||| QyP n.toNat)):=by
  rw[Qa5 n h0 h1]
  exact QvM T x _
@[go_sem] theorem Qyl (y:UInt8) (n:Int) (h0:0≤n) (h1:n<256):binOp .or T (.int .u8 n) (W8 y)=pure (W8 (QyP n.toNat ||| y)):=by
  rw[Qa5 n h0 h1]
  exact QvM T _ y
@[go_sem] theorem Qse (x y:UInt8):binOp .xor T (W8 x) (W8 y)=pure (W8 (x ^^^ y)):=by
  show binOp .xor T (.int .u8 x.toNat) (.int .u8 y.toNat)=_
  rw[binOp_xor]
  simp only[Op.intBits]
  rw[QeL (x:=x ^^^ y)]
  have e1:Qzt (IntKind.bits .u8) (x.toNat:Int)=x.toBitVec:=QaF x.toBitVec
  have e2:Qzt (IntKind.bits .u8) (y.toNat:Int)=y.toBitVec:=QaF y.toBitVec
  rw[e1,e2,Qcx]
  exact (QiQ (x ^^^ y)).symm
@[go_sem] theorem Qw9 (x:UInt8) (n:Int) (h0:0≤n) (h1:n<256):binOp .xor T (W8 x) (.int .u8 n)=pure (W8 (x ^^^ QyP n.toNat)):=by
  rw[Qa5 n h0 h1]
  exact Qse T x _
@[go_sem] theorem QtG (y:UInt8) (n:Int) (h0:0≤n) (h1:n<256):binOp .xor T (.int .u8 n) (W8 y)=pure (W8 (QyP n.toNat ^^^ y)):=by
  rw[Qa5 n h0 h1]
  exact Qse T _ y
@[go_sem] theorem Qsb (x y:UInt8):binOp .eql T (W8 x) (W8 y)=pure (.bool (x==y)):=by
  show binOp .eql T (.int .u8 x.toNat) (.int .u8 y.toNat)=_
  rw[binOp_eql]
  have:((x.toNat:Int)==(y.toNat:Int))=(x==y):=by
   rw[Qy7,beq_iff_eq,beq_iff_eq,←Qzp]
   omega
  simp only[this]
@[go_sem] theorem Qx0 (x:UInt8) (n:Int) (h0:0≤n) (h1:n<256):binOp .eql T (W8 x) (.int .u8 n)=pure (.bool (x==(QyP n.toNat))):=by
  rw[Qa5 n h0 h1]
  exact Qsb T x _
@[go_sem] theorem Qx4 (y:UInt8) (n:Int) (h0:0≤n) (h1:n<256):binOp .eql T (.int .u8 n) (W8 y)=pure (.bool ((QyP n.toNat)==y)):=by
  rw[Qa5 n h0 h1]
  exact Qsb T _ y
@[go_sem] theorem Qr5 (x y:UInt8):binOp .neq T (W8 x) (W8 y)=pure (.bool (x != y)):=by
  show binOp .neq T (.int .u8 x.toNat) (.int .u8 y.toNat)=_
  rw[binOp_neq]
  have:((x.toNat:Int)==(y.toNat:Int))=(x==y):=by
   rw[Qy7,beq_iff_eq,beq_iff_eq,←Qzp]
   omega
  simp only[bne,this]
@[go_sem] theorem Qxl (x:UInt8) (n:Int) (h0:0≤n) (h1:n<256):binOp .neq T (W8 x) (.int .u8 n)=pure (.bool (x != (QyP n.toNat))):=by
  rw[Qa5 n h0 h1]
  exact Qr5 T x _
@[go_sem] theorem Qya (y:UInt8) (n:Int) (h0:0≤n) (h1:n<256):binOp .neq T (.int .u8 n) (W8 y)=pure (.bool ((QyP n.toNat) != y)):=by
  rw[Qa5 n h0 h1]
  exact Qr5 T _ y
@[go_sem] theorem QsG (x y:UInt8):binOp .lss T (W8 x) (W8 y)=pure (.bool (decide (x<y))):=by
  show binOp .lss T (.int .u8 x.toNat) (.int .u8 y.toNat)=_
  rw[binOp_lss]
  congr 2
  rw[decide_eq_decide,QzU]
  omega
@[go_sem] theorem Qx7 (x:UInt8) (n:Int) (h0:0≤n) (h1:n<256):binOp .lss T (W8 x) (.int .u8 n)=pure (.bool (decide (x<(QyP n.toNat)))):=by
  rw[Qa5 n h0 h1]
  exact QsG T x _
@[go_sem] theorem QxG (y:UInt8) (n:Int) (h0:0≤n) (h1:n<256):binOp .lss T (.int .u8 n) (W8 y)=pure (.bool (decide ((QyP n.toNat)<y))):=by
  rw[Qa5 n h0 h1]
  exact QsG T _ y
@[go_sem] theorem QsC (x y:UInt8):binOp .leq T (W8 x) (W8 y)=pure (.bool (decide (x≤y))):=by
  show binOp .leq T (.int .u8 x.toNat) (.int .u8 y.toNat)=_
  rw[binOp_leq]
  congr 2
  rw[decide_eq_decide,UInt8.le_iff_toNat_le]
  omega
@[go_sem] theorem QxP (x:UInt8) (n:Int) (h0:0≤n) (h1:n<256):binOp .leq T (W8 x) (.int .u8 n)=pure (.bool (decide (x≤(QyP n.toNat)))):=by
  rw[Qa5 n h0 h1]
  exact QsC T x _
@[go_sem] theorem QxX (y:UInt8) (n:Int) (h0:0≤n) (h1:n<256):binOp .leq T (.int .u8 n) (W8 y)=pure (.bool (decide ((QyP n.toNat)≤y))):=by
  rw[Qa5 n h0 h1]
  exact QsC T _ y
@[go_sem] theorem QsA (x y:UInt8):binOp .gtr T (W8 x) (W8 y)=pure (.bool (decide (y<x))):=by
  show binOp .gtr T (.int .u8 x.toNat) (.int .u8 y.toNat)=_
  rw[binOp_gtr]
  congr 2
  rw[decide_eq_decide,QzU]
  omega
@[go_sem] theorem Qxt (x:UInt8) (n:Int) (h0:0≤n) (h1:n<256):binOp .gtr T (W8 x) (.int .u8 n)=pure (.bool (decide ((QyP n.toNat)<x))):=by
  rw[Qa5 n h0 h1]
  exact QsA T x _
@[go_sem] theorem Qxc (y:UInt8) (n:Int) (h0:0≤n) (h1:n<256):binOp .gtr T (.int .u8 n) (W8 y)=pure (.bool (decide (y<(QyP n.toNat)))):=by
  rw[Qa5 n h0 h1]
  exact QsA T _ y
@[go_sem] theorem Qsw (x y:UInt8):binOp .geq T (W8 x) (W8 y)=pure (.bool (decide (y≤x))):=by
  show binOp .geq T (.int .u8 x.toNat) (.int .u8 y.toNat)=_
  rw[binOp_geq]
  congr 2
  rw[decide_eq_decide,UInt8.le_iff_toNat_le]
  omega
@[go_sem] theorem Qw4 (x:UInt8) (n:Int) (h0:0≤n) (h1:n<256):binOp .geq T (W8 x) (.int .u8 n)=pure (.bool (decide ((QyP n.toNat)≤x))):=by
  rw[Qa5 n h0 h1]
  exact Qsw T x _
@[go_sem] theorem Qxj (y:UInt8) (n:Int) (h0:0≤n) (h1:n<256):binOp .geq T (.int .u8 n) (W8 y)=pure (.bool (decide (y≤(QyP n.toNat)))):=by
  rw[Qa5 n h0 h1]
  exact Qsw T _ y
@[go_sem] theorem Qsr (x y:UInt8) (hy: ¬((y).toNat:Int)=0):binOp .quo T (W8 x) (W8 y)=pure (W8 (x/y)):=by
  show binOp .quo T (.int .u8 x.toNat) (.int .u8 y.toNat)=_
  rw[binOp_quo]
  simp only[Op.intDiv]
  rw[if_neg hy,QeL (x:=x/y)]
  rw[Qcx,UInt8.toNat_div,Int.tdiv_eq_ediv_of_nonneg (by omega),←Int.natCast_ediv]
  have h1:=Nat.div_le_self x.toNat y.toNat
  have h2:=x.toNat_lt
  generalize x.toNat/y.toNat=q at *
  omega
@[go_sem] theorem Qyd (x:UInt8) (n:Int) (h0:0≤n) (h1:n<256) (hy: ¬((QyP n.toNat).toNat:Int)=0):binOp .quo T (W8 x) (.int .u8 n)=pure (W8 (x/(QyP n.toNat))):=by
  rw[Qa5 n h0 h1]
  exact Qsr T x _ hy
@[go_sem] theorem QxR (y:UInt8) (n:Int) (h0:0≤n) (h1:n<256) (hy: ¬((y).toNat:Int)=0):binOp .quo T (.int .u8 n) (W8 y)=pure (W8 (QyP n.toNat/y)):=by
  rw[Qa5 n h0 h1]
  exact Qsr T _ y hy
@[go_sem] theorem Qr4 (x y:UInt8) (hy: ¬((y).toNat:Int)=0):binOp .rem T (W8 x) (W8 y)=pure (W8 (x%y)):=by
  show binOp .rem T (.int .u8 x.toNat) (.int .u8 y.toNat)=_
  rw[binOp_rem]
  simp only[Op.intDiv]
  rw[if_neg hy,QeL (x:=x%y)]
  rw[UInt8.toNat_mod,Int.tmod_eq_emod_of_nonneg (by omega),←Int.natCast_emod]
@[go_sem] theorem Qxy (x:UInt8) (n:Int) (h0:0≤n) (h1:n<256) (hy: ¬((QyP n.toNat).toNat:Int)=0):binOp .rem T (W8 x) (.int .u8 n)=pure (W8 (x%(QyP n.toNat))):=by
  rw[Qa5 n h0 h1]
  exact Qr4 T x _ hy
@[go_sem] theorem QxH (y:UInt8) (n:Int) (h0:0≤n) (h1:n<256) (hy: ¬((y).toNat:Int)=0):binOp .rem T (.int .u8 n) (W8 y)=pure (W8 (QyP n.toNat%y)):=by
  rw[Qa5 n h0 h1]
  exact Qr4 T _ y hy
theorem Qpv (x:UInt8) (yk:IntKind) (n:Int) (h0:0≤n):binOp .shl T (W8 x) (.int yk n)=pure (W8 (shl8 x n.toNat)):=by
 show binOp .shl T (.int .u8 x.toNat) (.int yk n)=_
 rw[binOp_shl]
 simp only[Op.shift]
 rw[if_neg (by omega),QeL (x:=shl8 x n.toNat)]
 have e:(shl8 x n.toNat).toNat=(x.toNat*2^n.toNat)%256:=by
  show (x.toBitVec <<< n.toNat).toNat=_
  rw[BitVec.toNat_shiftLeft,Nat.shiftLeft_eq]
  rfl
 rw[Qcx,e]
 have hb:IntKind.bits .u8=8:=rfl
 rw[hb]
 rcases Nat.le_total n.toNat 8 with h|h
 ·rw[QzD h]
  have:((2:Int)^n.toNat)=((2^n.toNat:Nat):Int):=by simp
  rw[this,←QzS]
  omega
 ·rw[Nat.min_eq_right h]
  obtain⟨d,hd⟩:=Nat.exists_eq_add_of_le h
  have e1:x.toNat*2^n.toNat=256*(x.toNat*2^d):=by rw[hd,QzX];show x.toNat*(256*2^d)=_;rw[QAg]
  rw[e1,Nat.mul_mod_right]
  omega
@[go_sem] theorem Qyk (x:UInt8) (yk:IntKind) (n:Int):binOp .shl T (W8 x) (.int yk n)=if n<0 then runtimePanic (.error "negative shift amount") else pure (W8 (shl8 x n.toNat)):=by
  by_cases h:n<0
  ·rw[if_pos h]
   show binOp .shl T (.int .u8 x.toNat) (.int yk n)=_
   rw[binOp_shl]
   simp only[Op.shift]
   rw[if_pos h]
  ·rw[if_neg h]
   exact Qpv T x yk n (by omega)
theorem Qpz (x:UInt8) (yk:IntKind) (n:Int) (h0:0≤n):binOp .shr T (W8 x) (.int yk n)=pure (W8 (shr8 x n.toNat)):=by
 show binOp .shr T (.int .u8 x.toNat) (.int yk n)=_
 rw[binOp_shr]
 simp only[Op.shift]
 rw[if_neg (by omega),QeL (x:=shr8 x n.toNat)]
 have e:(shr8 x n.toNat).toNat=x.toNat/2^n.toNat:=by
  show (x.toBitVec >>> n.toNat).toNat=_
  rw[Qzd,Qza]
  rfl
 rw[e]
 have hb:IntKind.bits .u8=8:=rfl
 rw[hb]
 have hx:=x.toNat_lt
 have ep:∀m:Nat,((2:Int)^m)=((2^m:Nat):Int):=fun m=>by simp
 rw[ep,Int.fdiv_eq_ediv_of_nonneg _ (Int.natCast_nonneg _),←Int.natCast_ediv]
 rcases Nat.le_total n.toNat 8 with h|h
 ·rw[QzD h]
 ·rw[Nat.min_eq_right h]
  have h1:x.toNat/2^8=0:=Qzv (by simpa using hx)
  have h2:x.toNat/2^n.toNat=0:=Qzv (QyG (by simpa using hx) (QzJ (by omega) h))
  rw[h1,h2]
@[go_sem] theorem Qyh (x:UInt8) (yk:IntKind) (n:Int):binOp .shr T (W8 x) (.int yk n)=if n<0 then runtimePanic (.error "negative shift amount") else pure (W8 (shr8 x n.toNat)):=by
  by_cases h:n<0
  ·rw[if_pos h]
   show binOp .shr T (.int .u8 x.toNat) (.int yk n)=_
   rw[binOp_shr]
   simp only[Op.shift]
   rw[if_pos h]
  ·rw[if_neg h]
   exact Qpz T x yk n (by omega)
@[go_sem] theorem QxA (x:UInt8) (n:UInt64):binOp .shl T (W8 x) (W64 n)=pure (W8 (shl8 x (cnt n))):=Qpv T x .u64 n.toNat (by omega)
@[go_sem] theorem QxW (x:UInt8) (n:UInt64):binOp .shr T (W8 x) (W64 n)=pure (W8 (shr8 x (cnt n))):=Qpz T x .u64 n.toNat (by omega)
@[go_sem] theorem QsJ (x:UInt8):Op.unary .xor (W8 x)=pure (W8 (~~~x)):=by
  have h:binOp .xor 0 (.int .u8 (255:Int)) (W8 x)=pure (W8 (~~~x)):=by
   rw[QtG 0 x 255 (by omega) (by omega)]
   congr 2
  exact h
end
def Qew (x:UInt32) (n:Nat):UInt32:=⟨x.toBitVec <<< n⟩
def QbU (x:UInt32) (n:Nat):UInt32:=⟨x.toBitVec >>> n⟩
theorem QcS {x:UInt32} {n:Int} (h:(x.toNat:Int)=n):Value.int .u32 n=W32 x:=by rw[W32,h]
section
variable (T:TypeId) (ox oy:Operand)
@[go_sem] theorem Qub (op:BinOp) (x y:UInt32):eqGuard op T ox oy (W32 x) (W32 y)=pure ():=QaL ..
@[go_sem] theorem Qsn (op:BinOp) (x:UInt32) (k:IntKind) (y:Int):eqGuard op T ox oy (W32 x) (.int k y)=pure ():=QaL ..
@[go_sem] theorem Qsq (op:BinOp) (x:UInt32) (k:IntKind) (y:Int):eqGuard op T ox oy (.int k y) (W32 x)=pure ():=QaL ..
theorem QaQ (n:Int) (h0:0≤n) (h1:n<4294967296):Value.int .u32 n=W32 (QyX n.toNat):=by
 apply QcS
 rw[UInt32.toNat_ofNat']
 omega
theorem QjO (n:Int):(QzM n).toNat=(n%4294967296).toNat:=by
 simp[QzM,UInt32.toNat_ofNat']
 try omega
theorem Qrb (n:Int):Value.int .u32 (IntKind.wrap .u32 n)=W32 (QzM n):=by
 apply QcS
 rw[QbR]
 have:=QjO n
 omega
@[go_sem] theorem QpN (x y:UInt32):binOp .add T (W32 x) (W32 y)=pure (W32 (x+y)):=by
  show binOp .add T (.int .u32 x.toNat) (.int .u32 y.toNat)=_
  rw[binOp_add]
  simp only[Op.intArith]
  rw[QcS (x:=x+y)]
  rw[QbR,UInt32.toNat_add]
  omega
@[go_sem] theorem QwW (x:UInt32) (n:Int) (h0:0≤n) (h1:n<4294967296):binOp .add T (W32 x) (.int .u32 n)=pure (W32 (x+QyX n.toNat)):=by
  rw[QaQ n h0 h1]
  exact QpN T x _
@[go_sem] theorem Qwm (y:UInt32) (n:Int) (h0:0≤n) (h1:n<4294967296):binOp .add T (.int .u32 n) (W32 y)=pure (W32 (QyX n.toNat+y)):=by
  rw[QaQ n h0 h1]
  exact QpN T _ y
@[go_sem] theorem Qpu (x y:UInt32):binOp .sub T (W32 x) (W32 y)=pure (W32 (x-y)):=by
  show binOp .sub T (.int .u32 x.toNat) (.int .u32 y.toNat)=_
  rw[binOp_sub]
  simp only[Op.intArith]
  rw[QcS (x:=x-y)]
  rw[QbR,UInt32.toNat_sub]
  have:=y.toNat_lt
  omega
@[go_sem] theorem Qwc (x:UInt32) (n:Int) (h0:0≤n) (h1:n<4294967296):binOp .sub T (W32 x) (.int .u32 n)=pure (W32 (x-QyX n.toNat)):=by
  rw[QaQ n h0 h1]
  exact Qpu T x _
@[go_sem] theorem QwK (y:UInt32) (n:Int) (h0:0≤n) (h1:n<4294967296):binOp .sub T (.int .u32 n) (W32 y)=pure (W32 (QyX n.toNat-y)):=by
  rw[QaQ n h0 h1]
  exact Qpu T _ y
@[go_sem] theorem Qob (x y:UInt32):binOp .mul T (W32 x) (W32 y)=pure (W32 (x*y)):=by
  show binOp .mul T (.int .u32 x.toNat) (.int .u32 y.toNat)=_
  rw[binOp_mul]
  simp only[Op.intArith]
  rw[QcS (x:=x*y)]
  rw[QbR,UInt32.toNat_mul,←QzS]
  omega
@[go_sem] theorem Qwe (x:UInt32) (n:Int) (h0:0≤n) (h1:n<4294967296):binOp .mul T (W32 x) (.int .u32 n)=pure (W32 (x*QyX n.toNat)):=by
  rw[QaQ n h0 h1]
  exact Qob T x _
@[go_sem] theorem QwE (y:UInt32) (n:Int) (h0:0≤n) (h1:n<4294967296):binOp .mul T (.int .u32 n) (W32 y)=pure (W32 (QyX n.toNat*y)):=by
  rw[QaQ n h0 h1]
  exact Qob T _ y
@[go_sem] theorem Qo8 (x y:UInt32):binOp .and T (W32 x) (W32 y)=pure (W32 (x &&& y)):=by
  show binOp .and T (.int .u32 x.toNat) (.int .u32 y.toNat)=_
  rw[binOp_and]
  simp only[Op.intBits]
  rw[QcS (x:=x &&& y)]
  have e1:Qzt (IntKind.bits .u32) (x.toNat:Int)=x.toBitVec:=QaF x.toBitVec
  have e2:Qzt (IntKind.bits .u32) (y.toNat:Int)=y.toBitVec:=QaF y.toBitVec
  rw[e1,e2,QbR]
  exact (QgT (x &&& y)).symm
@[go_sem] theorem Qv3 (x:UInt32) (n:Int) (h0:0≤n) (h1:n<4294967296):binOp .and T (W32 x) (.int .u32 n)=pure (W32 (x &&& QyX n.toNat)):=by
  rw[QaQ n h0 h1]
  exact Qo8 T x _
@[go_sem] theorem Qwd (y:UInt32) (n:Int) (h0:0≤n) (h1:n<4294967296):binOp .and T (.int .u32 n) (W32 y)=pure (W32 (QyX n.toNat &&& y)):=by
  rw[QaQ n h0 h1]
  exact Qo8 T _ y
@[go_sem] theorem QrX (x y:UInt32):binOp .or T (W32 x) (W32 y)=pure (W32 (x ||| y)):=by
  show binOp .or T (.int .u32 x.toNat) (.int .u32 y.toNat)=_
  rw[binOp_or]
  simp only[Op.intBits]
  rw[QcS (x:=x ||| y)]
  have e1:Qzt (IntKind.bits .u32) (x.toNat:Int)=x.toBitVec:=QaF x.toBitVec
  have e2:Qzt (IntKind.bits .u32) (y.toNat:Int)=y.toBitVec:=QaF y.toBitVec
  rw[e1,e2,QbR]
  exact (QgT (x ||| y)).symm
@[go_sem] theorem Qx2 (x:UInt32) (n:Int) (h0:0≤n) (h1:n<4294967296):binOp .or T (W32 x) (.int .u32 n)=pure (W32 (x ||| QyX n.toNat)):=by
  rw[QaQ n h0 h1]
  exact QrX T x _
@[go_sem] theorem Qxv (y:UInt32) (n:Int) (h0:0≤n) (h1:n<4294967296):binOp .or T (.int .u32 n) (W32 y)=pure (W32 (QyX n.toNat ||| y)):=by
  rw[QaQ n h0 h1]
  exact QrX T _ y
@[go_sem] theorem Qp7 (x y:UInt32):binOp .xor T (W32 x) (W32 y)=pure (W32 (x ^^^ y)):=by
  show binOp .xor T (.int .u32 x.toNat) (.int .u32 y.toNat)=_
  rw[binOp_xor]
  simp only[Op.intBits]
  rw[QcS (x:=x ^^^ y)]
  have e1:Qzt (IntKind.bits .u32) (x.toNat:Int)=x.toBitVec:=QaF x.toBitVec
  have e2:Qzt (IntKind.bits .u32) (y.toNat:Int)=y.toBitVec:=QaF y.toBitVec
  rw[e1,e2,QbR]
  exact (QgT (x ^^^ y)).symm
@[go_sem] theorem QwD (x:UInt32) (n:Int) (h0:0≤n) (h1:n<4294967296):binOp .xor T (W32 x) (.int .u32 n)=pure (W32 (x ^^^ QyX n.toNat)):=by
  rw[QaQ n h0 h1]
  exact Qp7 T x _
@[go_sem] theorem QrF (y:UInt32) (n:Int) (h0:0≤n) (h1:n<4294967296):binOp .xor T (.int .u32 n) (W32 y)=pure (W32 (QyX n.toNat ^^^ y)):=by
  rw[QaQ n h0 h1]
  exact Qp7 T _ y
@[go_sem] theorem QkO (x y:UInt32):binOp .eql T (W32 x) (W32 y)=pure (.bool (x==y)):=by
  show binOp .eql T (.int .u32 x.toNat) (.int .u32 y.toNat)=_
  rw[binOp_eql]
  have:((x.toNat:Int)==(y.toNat:Int))=(x==y):=by
   rw[Qy7,beq_iff_eq,beq_iff_eq,←UInt32.toNat_inj]
   omega
  simp only[this]
@[go_sem] theorem Qwu (x:UInt32) (n:Int) (h0:0≤n) (h1:n<4294967296):binOp .eql T (W32 x) (.int .u32 n)=pure (.bool (x==(QyX n.toNat))):=by
  rw[QaQ n h0 h1]
  exact QkO T x _
@[go_sem] theorem QwQ (y:UInt32) (n:Int) (h0:0≤n) (h1:n<4294967296):binOp .eql T (.int .u32 n) (W32 y)=pure (.bool ((QyX n.toNat)==y)):=by
  rw[QaQ n h0 h1]
  exact QkO T _ y
@[go_sem] theorem QoV (x y:UInt32):binOp .neq T (W32 x) (W32 y)=pure (.bool (x != y)):=by
  show binOp .neq T (.int .u32 x.toNat) (.int .u32 y.toNat)=_
  rw[binOp_neq]
  have:((x.toNat:Int)==(y.toNat:Int))=(x==y):=by
   rw[Qy7,beq_iff_eq,beq_iff_eq,←UInt32.toNat_inj]
   omega
  simp only[bne,this]
@[go_sem] theorem Qv7 (x:UInt32) (n:Int) (h0:0≤n) (h1:n<4294967296):binOp .neq T (W32 x) (.int .u32 n)=pure (.bool (x != (QyX n.toNat))):=by
  rw[QaQ n h0 h1]
  exact QoV T x _
@[go_sem] theorem Qv4 (y:UInt32) (n:Int) (h0:0≤n) (h1:n<4294967296):binOp .neq T (.int .u32 n) (W32 y)=pure (.bool ((QyX n.toNat) != y)):=by
  rw[QaQ n h0 h1]
  exact QoV T _ y
@[go_sem] theorem Qpt (x y:UInt32):binOp .lss T (W32 x) (W32 y)=pure (.bool (decide (x<y))):=by
  show binOp .lss T (.int .u32 x.toNat) (.int .u32 y.toNat)=_
  rw[binOp_lss]
  congr 2
  rw[decide_eq_decide,UInt32.lt_iff_toNat_lt]
  omega
@[go_sem] theorem Qv5 (x:UInt32) (n:Int) (h0:0≤n) (h1:n<4294967296):binOp .lss T (W32 x) (.int .u32 n)=pure (.bool (decide (x<(QyX n.toNat)))):=by
  rw[QaQ n h0 h1]
  exact Qpt T x _
@[go_sem] theorem Qwx (y:UInt32) (n:Int) (h0:0≤n) (h1:n<4294967296):binOp .lss T (.int .u32 n) (W32 y)=pure (.bool (decide ((QyX n.toNat)<y))):=by
  rw[QaQ n h0 h1]
  exact Qpt T _ y
@[go_sem] theorem QoF (x y:UInt32):binOp .leq T (W32 x) (W32 y)=pure (.bool (decide (x≤y))):=by
  show binOp .leq T (.int .u32 x.toNat) (.int .u32 y.toNat)=_
  rw[binOp_leq]
  congr 2
  rw[decide_eq_decide,UInt32.le_iff_toNat_le]
  omega
@[go_sem] theorem Qw1 (x:UInt32) (n:Int) (h0:0≤n) (h1:n<4294967296):binOp .leq T (W32 x) (.int .u32 n)=pure (.bool (decide (x≤(QyX n.toNat)))):=by
  rw[QaQ n h0 h1]
  exact QoF T x _
@[go_sem] theorem Qwk (y:UInt32) (n:Int) (h0:0≤n) (h1:n<4294967296):binOp .leq T (.int .u32 n) (W32 y)=pure (.bool (decide ((QyX n.toNat)≤y))):=by
  rw[QaQ n h0 h1]
  exact QoF T _ y
@[go_sem] theorem Qpd (x y:UInt32):binOp .gtr T (W32 x) (W32 y)=pure (.bool (decide (y<x))):=by
  show binOp .gtr T (.int .u32 x.toNat) (.int .u32 y.toNat)=_
  rw[binOp_gtr]
  congr 2
  rw[decide_eq_decide,UInt32.lt_iff_toNat_lt]
  omega
@[go_sem] theorem QwJ (x:UInt32) (n:Int) (h0:0≤n) (h1:n<4294967296):binOp .gtr T (W32 x) (.int .u32 n)=pure (.bool (decide ((QyX n.toNat)<x))):=by
  rw[QaQ n h0 h1]
  exact Qpd T x _
@[go_sem] theorem QwM (y:UInt32) (n:Int) (h0:0≤n) (h1:n<4294967296):binOp .gtr T (.int .u32 n) (W32 y)=pure (.bool (decide (y<(QyX n.toNat)))):=by
  rw[QaQ n h0 h1]
  exact Qpd T _ y
@[go_sem] theorem QoK (x y:UInt32):binOp .geq T (W32 x) (W32 y)=pure (.bool (decide (y≤x))):=by
  show binOp .geq T (.int .u32 x.toNat) (.int .u32 y.toNat)=_
  rw[binOp_geq]
  congr 2
  rw[decide_eq_decide,UInt32.le_iff_toNat_le]
  omega
@[go_sem] theorem Qv9 (x:UInt32) (n:Int) (h0:0≤n) (h1:n<4294967296):binOp .geq T (W32 x) (.int .u32 n)=pure (.bool (decide ((QyX n.toNat)≤x))):=by
  rw[QaQ n h0 h1]
  exact QoK T x _
@[go_sem] theorem Qwf (y:UInt32) (n:Int) (h0:0≤n) (h1:n<4294967296):binOp .geq T (.int .u32 n) (W32 y)=pure (.bool (decide (y≤(QyX n.toNat)))):=by
  rw[QaQ n h0 h1]
  exact QoK T _ y
@[go_sem] theorem QnW (x y:UInt32) (hy: ¬((y).toNat:Int)=0):binOp .quo T (W32 x) (W32 y)=pure (W32 (x/y)):=by
  show binOp .quo T (.int .u32 x.toNat) (.int .u32 y.toNat)=_
  rw[binOp_quo]
  simp only[Op.intDiv]
  rw[if_neg hy,QcS (x:=x/y)]
  rw[QbR,UInt32.toNat_div,Int.tdiv_eq_ediv_of_nonneg (by omega),←Int.natCast_ediv]
  have h1:=Nat.div_le_self x.toNat y.toNat
  have h2:=x.toNat_lt
  generalize x.toNat/y.toNat=q at *
  omega
@[go_sem] theorem Qwz (x:UInt32) (n:Int) (h0:0≤n) (h1:n<4294967296) (hy: ¬((QyX n.toNat).toNat:Int)=0):binOp .quo T (W32 x) (.int .u32 n)=pure (W32 (x/(QyX n.toNat))):=by
  rw[QaQ n h0 h1]
  exact QnW T x _ hy
@[go_sem] theorem Qwn (y:UInt32) (n:Int) (h0:0≤n) (h1:n<4294967296) (hy: ¬((y).toNat:Int)=0):binOp .quo T (.int .u32 n) (W32 y)=pure (W32 (QyX n.toNat/y)):=by
  rw[QaQ n h0 h1]
  exact QnW T _ y hy
@[go_sem] theorem Qov (x y:UInt32) (hy: ¬((y).toNat:Int)=0):binOp .rem T (W32 x) (W32 y)=pure (W32 (x%y)):=by
  show binOp .rem T (.int .u32 x.toNat) (.int .u32 y.toNat)=_
  rw[binOp_rem]
  simp only[Op.intDiv]
  rw[if_neg hy,QcS (x:=x%y)]
  rw[UInt32.toNat_mod,Int.tmod_eq_emod_of_nonneg (by omega),←Int.natCast_emod]
@[go_sem] theorem QlC (x:UInt32) (n:Int) (h0:0≤n) (h1:n<4294967296) (hy: ¬((QyX n.toNat).toNat:Int)=0):binOp .rem T (W32 x) (.int .u32 n)=pure (W32 (x%(QyX n.toNat))):=by
  rw[QaQ n h0 h1]
  exact Qov T x _ hy
@[go_sem] theorem Qv6 (y:UInt32) (n:Int) (h0:0≤n) (h1:n<4294967296) (hy: ¬((y).toNat:Int)=0):binOp .rem T (.int .u32 n) (W32 y)=pure (W32 (QyX n.toNat%y)):=by
  rw[QaQ n h0 h1]
  exact Qov T _ y hy
theorem QlH (x:UInt32) (yk:IntKind) (n:Int) (h0:0≤n):binOp .shl T (W32 x) (.int yk n)=pure (W32 (Qew x n.toNat)):=by
 show binOp .shl T (.int .u32 x.toNat) (.int yk n)=_
 rw[binOp_shl]
 simp only[Op.shift]
 rw[if_neg (by omega),QcS (x:=Qew x n.toNat)]
 have e:(Qew x n.toNat).toNat=(x.toNat*2^n.toNat)%4294967296:=by
  show (x.toBitVec <<< n.toNat).toNat=_
  rw[BitVec.toNat_shiftLeft,Nat.shiftLeft_eq]
  rfl
 rw[QbR,e]
 have hb:IntKind.bits .u32=32:=rfl
 rw[hb]
 rcases Nat.le_total n.toNat 32 with h|h
 ·rw[QzD h]
  have:((2:Int)^n.toNat)=((2^n.toNat:Nat):Int):=by simp
  rw[this,←QzS]
  omega
 ·rw[Nat.min_eq_right h]
  obtain⟨d,hd⟩:=Nat.exists_eq_add_of_le h
  have e1:x.toNat*2^n.toNat=4294967296*(x.toNat*2^d):=by rw[hd,QzX];show x.toNat*(4294967296*2^d)=_;rw[QAg]
  rw[e1,Nat.mul_mod_right]
  omega
@[go_sem] theorem QxE (x:UInt32) (yk:IntKind) (n:Int):binOp .shl T (W32 x) (.int yk n)=if n<0 then runtimePanic (.error "negative shift amount") else pure (W32 (Qew x n.toNat)):=by
  by_cases h:n<0
  ·rw[if_pos h]
   show binOp .shl T (.int .u32 x.toNat) (.int yk n)=_
   rw[binOp_shl]
   simp only[Op.shift]
   rw[if_pos h]
  ·rw[if_neg h]
   exact QlH T x yk n (by omega)
theorem QiG (x:UInt32) (yk:IntKind) (n:Int) (h0:0≤n):binOp .shr T (W32 x) (.int yk n)=pure (W32 (QbU x n.toNat)):=by
 show binOp .shr T (.int .u32 x.toNat) (.int yk n)=_
 rw[binOp_shr]
 simp only[Op.shift]
 rw[if_neg (by omega),QcS (x:=QbU x n.toNat)]
 have e:(QbU x n.toNat).toNat=x.toNat/2^n.toNat:=by
  show (x.toBitVec >>> n.toNat).toNat=_
  rw[Qzd,Qza]
  rfl
 rw[e]
 have hb:IntKind.bits .u32=32:=rfl
 rw[hb]
 have hx:=x.toNat_lt
 have ep:∀m:Nat,((2:Int)^m)=((2^m:Nat):Int):=fun m=>by simp
 rw[ep,Int.fdiv_eq_ediv_of_nonneg _ (Int.natCast_nonneg _),←Int.natCast_ediv]
 rcases Nat.le_total n.toNat 32 with h|h
 ·rw[QzD h]
 ·rw[Nat.min_eq_right h]
  have h1:x.toNat/2^32=0:=Qzv (by simpa using hx)
  have h2:x.toNat/2^n.toNat=0:=Qzv (QyG (by simpa using hx) (QzJ (by omega) h))
  rw[h1,h2]
@[go_sem] theorem Qxa (x:UInt32) (yk:IntKind) (n:Int):binOp .shr T (W32 x) (.int yk n)=if n<0 then runtimePanic (.error "negative shift amount") else pure (W32 (QbU x n.toNat)):=by
  by_cases h:n<0
  ·rw[if_pos h]
   show binOp .shr T (.int .u32 x.toNat) (.int yk n)=_
   rw[binOp_shr]
   simp only[Op.shift]
   rw[if_pos h]
  ·rw[if_neg h]
   exact QiG T x yk n (by omega)
@[go_sem] theorem Qv2 (x:UInt32) (n:UInt64):binOp .shl T (W32 x) (W64 n)=pure (W32 (Qew x (cnt n))):=QlH T x .u64 n.toNat (by omega)
@[go_sem] theorem Qwt (x:UInt32) (n:UInt64):binOp .shr T (W32 x) (W64 n)=pure (W32 (QbU x (cnt n))):=QiG T x .u64 n.toNat (by omega)
@[go_sem] theorem QqF (x:UInt32):Op.unary .xor (W32 x)=pure (W32 (~~~x)):=by
  have h:binOp .xor 0 (.int .u32 (4294967295:Int)) (W32 x)=pure (W32 (~~~x)):=by
   rw[QrF 0 x 4294967295 (by omega) (by omega)]
   congr 2
  exact h
end
def QjF (x:UInt64) (n:Nat):UInt64:=⟨x.toBitVec <<< n⟩
def QdU (x:UInt64) (n:Nat):UInt64:=⟨x.toBitVec >>> n⟩
theorem QcX {x:UInt64} {n:Int} (h:(x.toNat:Int)=n):Value.int .u64 n=W64 x:=by rw[W64,h]
section
variable (T:TypeId) (ox oy:Operand)
@[go_sem] theorem QtJ (op:BinOp) (x y:UInt64):eqGuard op T ox oy (W64 x) (W64 y)=pure ():=QaL ..
@[go_sem] theorem QsF (op:BinOp) (x:UInt64) (k:IntKind) (y:Int):eqGuard op T ox oy (W64 x) (.int k y)=pure ():=QaL ..
@[go_sem] theorem Qsl (op:BinOp) (x:UInt64) (k:IntKind) (y:Int):eqGuard op T ox oy (.int k y) (W64 x)=pure ():=QaL ..
theorem QaN (n:Int) (h0:0≤n) (h1:n<18446744073709551616):Value.int .u64 n=W64 (QyO n.toNat):=by
 apply QcX
 rw[QyR]
 omega
theorem Qjg (n:Int):(Qy8 n).toNat=(n%18446744073709551616).toNat:=by
 simp[Qy8,QyR]
 try omega
theorem QdX (n:Nat):Qy8 (n:Int)=QyO n:=by
 apply Qz9.1
 rw[Qjg,QyR]
 omega
theorem Qq2 (n:Int):Value.int .u64 (IntKind.wrap .u64 n)=W64 (Qy8 n):=by
 apply QcX
 rw[QbP]
 have:=Qjg n
 omega
@[go_sem] theorem Qla (x y:UInt64):binOp .add T (W64 x) (W64 y)=pure (W64 (x+y)):=by
  show binOp .add T (.int .u64 x.toNat) (.int .u64 y.toNat)=_
  rw[binOp_add]
  simp only[Op.intArith]
  rw[QcX (x:=x+y)]
  rw[QbP,UInt64.toNat_add]
  omega
@[go_sem] theorem QwZ (x:UInt64) (n:Int) (h0:0≤n) (h1:n<18446744073709551616):binOp .add T (W64 x) (.int .u64 n)=pure (W64 (x+QyO n.toNat)):=by
  rw[QaN n h0 h1]
  exact Qla T x _
@[go_sem] theorem QvZ (y:UInt64) (n:Int) (h0:0≤n) (h1:n<18446744073709551616):binOp .add T (.int .u64 n) (W64 y)=pure (W64 (QyO n.toNat+y)):=by
  rw[QaN n h0 h1]
  exact Qla T _ y
@[go_sem] theorem Qlj (x y:UInt64):binOp .sub T (W64 x) (W64 y)=pure (W64 (x-y)):=by
  show binOp .sub T (.int .u64 x.toNat) (.int .u64 y.toNat)=_
  rw[binOp_sub]
  simp only[Op.intArith]
  rw[QcX (x:=x-y)]
  rw[QbP,UInt64.toNat_sub]
  have:=y.toNat_lt
  omega
@[go_sem] theorem Qwv (x:UInt64) (n:Int) (h0:0≤n) (h1:n<18446744073709551616):binOp .sub T (W64 x) (.int .u64 n)=pure (W64 (x-QyO n.toNat)):=by
  rw[QaN n h0 h1]
  exact Qlj T x _
@[go_sem] theorem Qwj (y:UInt64) (n:Int) (h0:0≤n) (h1:n<18446744073709551616):binOp .sub T (.int .u64 n) (W64 y)=pure (W64 (QyO n.toNat-y)):=by
  rw[QaN n h0 h1]
  exact Qlj T _ y
@[go_sem] theorem Qld (x y:UInt64):binOp .mul T (W64 x) (W64 y)=pure (W64 (x*y)):=by
  show binOp .mul T (.int .u64 x.toNat) (.int .u64 y.toNat)=_
  rw[binOp_mul]
  simp only[Op.intArith]
  rw[QcX (x:=x*y)]
  rw[QbP,UInt64.toNat_mul,←QzS]
  omega
@[go_sem] theorem Qwg (x:UInt64) (n:Int) (h0:0≤n) (h1:n<18446744073709551616):binOp .mul T (W64 x) (.int .u64 n)=pure (W64 (x*QyO n.toNat)):=by
  rw[QaN n h0 h1]
  exact Qld T x _
@[go_sem] theorem Qww (y:UInt64) (n:Int) (h0:0≤n) (h1:n<18446744073709551616):binOp .mul T (.int .u64 n) (W64 y)=pure (W64 (QyO n.toNat*y)):=by
  rw[QaN n h0 h1]
  exact Qld T _ y
@[go_sem] theorem Qpx (x y:UInt64):binOp .and T (W64 x) (W64 y)=pure (W64 (x &&& y)):=by
  show binOp .and T (.int .u64 x.toNat) (.int .u64 y.toNat)=_
  rw[binOp_and]
  simp only[Op.intBits]
  rw[QcX (x:=x &&& y)]
  have e1:Qzt (IntKind.bits .u64) (x.toNat:Int)=x.toBitVec:=QaF x.toBitVec
  have e2:Qzt (IntKind.bits .u64) (y.toNat:Int)=y.toBitVec:=QaF y.toBitVec
  rw[e1,e2,QbP]
  exact (Qg8 (x &&& y)).symm
@[go_sem] theorem Qik (x:UInt64) (n:Int) (h0:0≤n) (h1:n<18446744073709551616):binOp .and T (W64 x) (.int .u64 n)=pure (W64 (x &&& QyO n.toNat)):=by
  rw[QaN n h0 h1]
  exact Qpx T x _
@[go_sem] theorem Qwo (y:UInt64) (n:Int) (h0:0≤n) (h1:n<18446744073709551616):binOp .and T (.int .u64 n) (W64 y)=pure (W64 (QyO n.toNat &&& y)):=by
  rw[QaN n h0 h1]
  exact Qpx T _ y
@[go_sem] theorem QpD (x y:UInt64):binOp .or T (W64 x) (W64 y)=pure (W64 (x ||| y)):=by
  show binOp .or T (.int .u64 x.toNat) (.int .u64 y.toNat)=_
  rw[binOp_or]
  simp only[Op.intBits]
  rw[QcX (x:=x ||| y)]
  have e1:Qzt (IntKind.bits .u64) (x.toNat:Int)=x.toBitVec:=QaF x.toBitVec
  have e2:Qzt (IntKind.bits .u64) (y.toNat:Int)=y.toBitVec:=QaF y.toBitVec
  rw[e1,e2,QbP]
  exact (Qg8 (x ||| y)).symm
@[go_sem] theorem QxF (x:UInt64) (n:Int) (h0:0≤n) (h1:n<18446744073709551616):binOp .or T (W64 x) (.int .u64 n)=pure (W64 (x ||| QyO n.toNat)):=by
  rw[QaN n h0 h1]
  exact QpD T x _
@[go_sem] theorem Qw3 (y:UInt64) (n:Int) (h0:0≤n) (h1:n<18446744073709551616):binOp .or T (.int .u64 n) (W64 y)=pure (W64 (QyO n.toNat ||| y)):=by
  rw[QaN n h0 h1]
  exact QpD T _ y
@[go_sem] theorem QpP (x y:UInt64):binOp .xor T (W64 x) (W64 y)=pure (W64 (x ^^^ y)):=by
  show binOp .xor T (.int .u64 x.toNat) (.int .u64 y.toNat)=_
  rw[binOp_xor]
  simp only[Op.intBits]
  rw[QcX (x:=x ^^^ y)]
  have e1:Qzt (IntKind.bits .u64) (x.toNat:Int)=x.toBitVec:=QaF x.toBitVec
  have e2:Qzt (IntKind.bits .u64) (y.toNat:Int)=y.toBitVec:=QaF y.toBitVec
  rw[e1,e2,QbP]
  exact (Qg8 (x ^^^ y)).symm
@[go_sem] theorem Qwh (x:UInt64) (n:Int) (h0:0≤n) (h1:n<18446744073709551616):binOp .xor T (W64 x) (.int .u64 n)=pure (W64 (x ^^^ QyO n.toNat)):=by
  rw[QaN n h0 h1]
  exact QpP T x _
@[go_sem] theorem Qqh (y:UInt64) (n:Int) (h0:0≤n) (h1:n<18446744073709551616):binOp .xor T (.int .u64 n) (W64 y)=pure (W64 (QyO n.toNat ^^^ y)):=by
  rw[QaN n h0 h1]
  exact QpP T _ y
@[go_sem] theorem Qki (x y:UInt64):binOp .eql T (W64 x) (W64 y)=pure (.bool (x==y)):=by
  show binOp .eql T (.int .u64 x.toNat) (.int .u64 y.toNat)=_
  rw[binOp_eql]
  have:((x.toNat:Int)==(y.toNat:Int))=(x==y):=by
   rw[Qy7,beq_iff_eq,beq_iff_eq,←Qz9]
   omega
  simp only[this]
@[go_sem] theorem QwS (x:UInt64) (n:Int) (h0:0≤n) (h1:n<18446744073709551616):binOp .eql T (W64 x) (.int .u64 n)=pure (.bool (x==(QyO n.toNat))):=by
  rw[QaN n h0 h1]
  exact Qki T x _
@[go_sem] theorem Qv0 (y:UInt64) (n:Int) (h0:0≤n) (h1:n<18446744073709551616):binOp .eql T (.int .u64 n) (W64 y)=pure (.bool ((QyO n.toNat)==y)):=by
  rw[QaN n h0 h1]
  exact Qki T _ y
@[go_sem] theorem QnO (x y:UInt64):binOp .neq T (W64 x) (W64 y)=pure (.bool (x != y)):=by
  show binOp .neq T (.int .u64 x.toNat) (.int .u64 y.toNat)=_
  rw[binOp_neq]
  have:((x.toNat:Int)==(y.toNat:Int))=(x==y):=by
   rw[Qy7,beq_iff_eq,beq_iff_eq,←Qz9]
   omega
  simp only[bne,this]
@[go_sem] theorem Qw2 (x:UInt64) (n:Int) (h0:0≤n) (h1:n<18446744073709551616):binOp .neq T (W64 x) (.int .u64 n)=pure (.bool (x != (QyO n.toNat))):=by
  rw[QaN n h0 h1]
  exact QnO T x _
@[go_sem] theorem Qv8 (y:UInt64) (n:Int) (h0:0≤n) (h1:n<18446744073709551616):binOp .neq T (.int .u64 n) (W64 y)=pure (.bool ((QyO n.toNat) != y)):=by
  rw[QaN n h0 h1]
  exact QnO T _ y
@[go_sem] theorem QkZ (x y:UInt64):binOp .lss T (W64 x) (W64 y)=pure (.bool (decide (x<y))):=by
  show binOp .lss T (.int .u64 x.toNat) (.int .u64 y.toNat)=_
  rw[binOp_lss]
  congr 2
  rw[decide_eq_decide,UInt64.lt_iff_toNat_lt]
  omega
@[go_sem] theorem Qw0 (x:UInt64) (n:Int) (h0:0≤n) (h1:n<18446744073709551616):binOp .lss T (W64 x) (.int .u64 n)=pure (.bool (decide (x<(QyO n.toNat)))):=by
  rw[QaN n h0 h1]
  exact QkZ T x _
@[go_sem] theorem QwX (y:UInt64) (n:Int) (h0:0≤n) (h1:n<18446744073709551616):binOp .lss T (.int .u64 n) (W64 y)=pure (.bool (decide ((QyO n.toNat)<y))):=by
  rw[QaN n h0 h1]
  exact QkZ T _ y
@[go_sem] theorem QnH (x y:UInt64):binOp .leq T (W64 x) (W64 y)=pure (.bool (decide (x≤y))):=by
  show binOp .leq T (.int .u64 x.toNat) (.int .u64 y.toNat)=_
  rw[binOp_leq]
  congr 2
  rw[decide_eq_decide,UInt64.le_iff_toNat_le]
  omega
@[go_sem] theorem QwT (x:UInt64) (n:Int) (h0:0≤n) (h1:n<18446744073709551616):binOp .leq T (W64 x) (.int .u64 n)=pure (.bool (decide (x≤(QyO n.toNat)))):=by
  rw[QaN n h0 h1]
  exact QnH T x _
@[go_sem] theorem Qwy (y:UInt64) (n:Int) (h0:0≤n) (h1:n<18446744073709551616):binOp .leq T (.int .u64 n) (W64 y)=pure (.bool (decide ((QyO n.toNat)≤y))):=by
  rw[QaN n h0 h1]
  exact QnH T _ y
@[go_sem] theorem Qli (x y:UInt64):binOp .gtr T (W64 x) (W64 y)=pure (.bool (decide (y<x))):=by
  show binOp .gtr T (.int .u64 x.toNat) (.int .u64 y.toNat)=_
  rw[binOp_gtr]
  congr 2
  rw[decide_eq_decide,UInt64.lt_iff_toNat_lt]
  omega
@[go_sem] theorem QwR (x:UInt64) (n:Int) (h0:0≤n) (h1:n<18446744073709551616):binOp .gtr T (W64 x) (.int .u64 n)=pure (.bool (decide ((QyO n.toNat)<x))):=by
  rw[QaN n h0 h1]
  exact Qli T x _
@[go_sem] theorem QwI (y:UInt64) (n:Int) (h0:0≤n) (h1:n<18446744073709551616):binOp .gtr T (.int .u64 n) (W64 y)=pure (.bool (decide (y<(QyO n.toNat)))):=by
  rw[QaN n h0 h1]
  exact Qli T _ y
@[go_sem] theorem Qof (x y:UInt64):binOp .geq T (W64 x) (W64 y)=pure (.bool (decide (y≤x))):=by
  show binOp .geq T (.int .u64 x.toNat) (.int .u64 y.toNat)=_
  rw[binOp_geq]
  congr 2
  rw[decide_eq_decide,UInt64.le_iff_toNat_le]
  omega
@[go_sem] theorem QwF (x:UInt64) (n:Int) (h0:0≤n) (h1:n<18446744073709551616):binOp .geq T (W64 x) (.int .u64 n)=pure (.bool (decide ((QyO n.toNat)≤x))):=by
  rw[QaN n h0 h1]
  exact Qof T x _
@[go_sem] theorem Qwr (y:UInt64) (n:Int) (h0:0≤n) (h1:n<18446744073709551616):binOp .geq T (.int .u64 n) (W64 y)=pure (.bool (decide (y≤(QyO n.toNat)))):=by
  rw[QaN n h0 h1]
  exact Qof T _ y
@[go_sem] theorem QoP (x y:UInt64) (hy: ¬((y).toNat:Int)=0):binOp .quo T (W64 x) (W64 y)=pure (W64 (x/y)):=by
  show binOp .quo T (.int .u64 x.toNat) (.int .u64 y.toNat)=_
  rw[binOp_quo]
  simp only[Op.intDiv]
  rw[if_neg hy,QcX (x:=x/y)]
  rw[QbP,UInt64.toNat_div,Int.tdiv_eq_ediv_of_nonneg (by omega),←Int.natCast_ediv]
  have h1:=Nat.div_le_self x.toNat y.toNat
  have h2:=x.toNat_lt
  generalize x.toNat/y.toNat=q at *
  omega
@[go_sem] theorem Qwi (x:UInt64) (n:Int) (h0:0≤n) (h1:n<18446744073709551616) (hy: ¬((QyO n.toNat).toNat:Int)=0):binOp .quo T (W64 x) (.int .u64 n)=pure (W64 (x/(QyO n.toNat))):=by
  rw[QaN n h0 h1]
  exact QoP T x _ hy
@[go_sem] theorem QwN (y:UInt64) (n:Int) (h0:0≤n) (h1:n<18446744073709551616) (hy: ¬((y).toNat:Int)=0):binOp .quo T (.int .u64 n) (W64 y)=pure (W64 (QyO n.toNat/y)):=by
  rw[QaN n h0 h1]
  exact QoP T _ y hy
@[go_sem] theorem Qos (x y:UInt64) (hy: ¬((y).toNat:Int)=0):binOp .rem T (W64 x) (W64 y)=pure (W64 (x%y)):=by
  show binOp .rem T (.int .u64 x.toNat) (.int .u64 y.toNat)=_
  rw[binOp_rem]
  simp only[Op.intDiv]
  rw[if_neg hy,QcX (x:=x%y)]
  rw[UInt64.toNat_mod,Int.tmod_eq_emod_of_nonneg (by omega),←Int.natCast_emod]
@[go_sem] theorem Qrw (x:UInt64) (n:Int) (h0:0≤n) (h1:n<18446744073709551616) (hy: ¬((QyO n.toNat).toNat:Int)=0):binOp .rem T (W64 x) (.int .u64 n)=pure (W64 (x%(QyO n.toNat))):=by
  rw[QaN n h0 h1]
  exact Qos T x _ hy
@[go_sem] theorem Qwa (y:UInt64) (n:Int) (h0:0≤n) (h1:n<18446744073709551616) (hy: ¬((y).toNat:Int)=0):binOp .rem T (.int .u64 n) (W64 y)=pure (W64 (QyO n.toNat%y)):=by
  rw[QaN n h0 h1]
  exact Qos T _ y hy
theorem Qio (x:UInt64) (yk:IntKind) (n:Int) (h0:0≤n):binOp .shl T (W64 x) (.int yk n)=pure (W64 (QjF x n.toNat)):=by
 show binOp .shl T (.int .u64 x.toNat) (.int yk n)=_
 rw[binOp_shl]
 simp only[Op.shift]
 rw[if_neg (by omega),QcX (x:=QjF x n.toNat)]
 have e:(QjF x n.toNat).toNat=(x.toNat*2^n.toNat)%18446744073709551616:=by
  show (x.toBitVec <<< n.toNat).toNat=_
  rw[BitVec.toNat_shiftLeft,Nat.shiftLeft_eq]
  rfl
 rw[QbP,e]
 have hb:IntKind.bits .u64=64:=rfl
 rw[hb]
 rcases Nat.le_total n.toNat 64 with h|h
 ·rw[QzD h]
  have:((2:Int)^n.toNat)=((2^n.toNat:Nat):Int):=by simp
  rw[this,←QzS]
  omega
 ·rw[Nat.min_eq_right h]
  obtain⟨d,hd⟩:=Nat.exists_eq_add_of_le h
  have e1:x.toNat*2^n.toNat=18446744073709551616*(x.toNat*2^d):=by rw[hd,QzX];show x.toNat*(18446744073709551616*2^d)=_;rw[QAg]
  rw[e1,Nat.mul_mod_right]
  omega
@[go_sem] theorem QxN (x:UInt64) (yk:IntKind) (n:Int):binOp .shl T (W64 x) (.int yk n)=if n<0 then runtimePanic (.error "negative shift amount") else pure (W64 (QjF x n.toNat)):=by
  by_cases h:n<0
  ·rw[if_pos h]
   show binOp .shl T (.int .u64 x.toNat) (.int yk n)=_
   rw[binOp_shl]
   simp only[Op.shift]
   rw[if_pos h]
  ·rw[if_neg h]
   exact Qio T x yk n (by omega)
theorem Qip (x:UInt64) (yk:IntKind) (n:Int) (h0:0≤n):binOp .shr T (W64 x) (.int yk n)=pure (W64 (QdU x n.toNat)):=by
 show binOp .shr T (.int .u64 x.toNat) (.int yk n)=_
 rw[binOp_shr]
 simp only[Op.shift]
 rw[if_neg (by omega),QcX (x:=QdU x n.toNat)]
 have e:(QdU x n.toNat).toNat=x.toNat/2^n.toNat:=by
  show (x.toBitVec >>> n.toNat).toNat=_
  rw[Qzd,Qza]
  rfl
 rw[e]
 have hb:IntKind.bits .u64=64:=rfl
 rw[hb]
 have hx:=x.toNat_lt
 have ep:∀m:Nat,((2:Int)^m)=((2^m:Nat):Int):=fun m=>by simp
 rw[ep,Int.fdiv_eq_ediv_of_nonneg _ (Int.natCast_nonneg _),←Int.natCast_ediv]
 rcases Nat.le_total n.toNat 64 with h|h
 ·rw[QzD h]
 ·rw[Nat.min_eq_right h]
  have h1:x.toNat/2^64=0:=Qzv (by simpa using hx)
  have h2:x.toNat/2^n.toNat=0:=Qzv (QyG (by simpa using hx) (QzJ (by omega) h))
  rw[h1,h2]
@[go_sem] theorem Qxb (x:UInt64) (yk:IntKind) (n:Int):binOp .shr T (W64 x) (.int yk n)=if n<0 then runtimePanic (.error "negative shift amount") else pure (W64 (QdU x n.toNat)):=by
  by_cases h:n<0
  ·rw[if_pos h]
   show binOp .shr T (.int .u64 x.toNat) (.int yk n)=_
   rw[binOp_shr]
   simp only[Op.shift]
   rw[if_pos h]
  ·rw[if_neg h]
   exact Qip T x yk n (by omega)
@[go_sem] theorem Qwl (x:UInt64) (n:UInt64):binOp .shl T (W64 x) (W64 n)=pure (W64 (QjF x (cnt n))):=Qio T x .u64 n.toNat (by omega)
@[go_sem] theorem QwP (x:UInt64) (n:UInt64):binOp .shr T (W64 x) (W64 n)=pure (W64 (QdU x (cnt n))):=Qip T x .u64 n.toNat (by omega)
@[go_sem] theorem Qrt (x:UInt64):Op.unary .xor (W64 x)=pure (W64 (~~~x)):=by
  have h:binOp .xor 0 (.int .u64 (18446744073709551615:Int)) (W64 x)=pure (W64 (~~~x)):=by
   rw[Qqh 0 x 18446744073709551615 (by omega) (by omega)]
   congr 2
  exact h
end
section
variable {P:Program} (w:World) (S D:TypeId)
@[go_sem] theorem QmW (x:UInt8) (hs:(P.underlying S).isSome=true) (hd:P.underlying D=some (.int .u8)):(convert S D (W8 x)).run P w= .ok (W8 x) w:=by
  have h:=run_convert_int (P:=P) (w:=w) S D .u8 x.toNat hs (by unfold Program.intKind;rw[hd])
  have e:P.intKind D= .u8:=by unfold Program.intKind;rw[hd]
  rw[e]at h
  refine h.trans ?_
  rw[QeL (x:=x)]
  rw[Qcx]
  have:=x.toNat_lt
  skip
  omega
@[go_sem] theorem Ql5 (x:UInt8) (hs:(P.underlying S).isSome=true) (hd:P.underlying D=some (.int .u32)):(convert S D (W8 x)).run P w= .ok (W32 x.toUInt32) w:=by
  have h:=run_convert_int (P:=P) (w:=w) S D .u8 x.toNat hs (by unfold Program.intKind;rw[hd])
  have e:P.intKind D= .u32:=by unfold Program.intKind;rw[hd]
  rw[e]at h
  refine h.trans ?_
  rw[QcS (x:=x.toUInt32)]
  rw[QbR]
  have:=x.toNat_lt
  rw[UInt8.toNat_toUInt32]
  omega
@[go_sem] theorem QlZ (x:UInt8) (hs:(P.underlying S).isSome=true) (hd:P.underlying D=some (.int .u64)):(convert S D (W8 x)).run P w= .ok (W64 x.toUInt64) w:=by
  have h:=run_convert_int (P:=P) (w:=w) S D .u8 x.toNat hs (by unfold Program.intKind;rw[hd])
  have e:P.intKind D= .u64:=by unfold Program.intKind;rw[hd]
  rw[e]at h
  refine h.trans ?_
  rw[QcX (x:=x.toUInt64)]
  rw[QbP]
  have:=x.toNat_lt
  rw[UInt8.toNat_toUInt64]
  omega
@[go_sem] theorem QlN (x:UInt8) (hs:(P.underlying S).isSome=true) (hd:P.underlying D=some (.int .i64)):(convert S D (W8 x)).run P w= .ok (.int .i64 (IntKind.i64.wrap x.toNat)) w:=by
  have h:=run_convert_int (P:=P) (w:=w) S D .u8 x.toNat hs (by unfold Program.intKind;rw[hd])
  have e:P.intKind D= .i64:=by unfold Program.intKind;rw[hd]
  rw[e]at h
  exact h
@[go_sem] theorem Qfg (x:UInt32) (hs:(P.underlying S).isSome=true) (hd:P.underlying D=some (.int .u8)):(convert S D (W32 x)).run P w= .ok (W8 x.toUInt8) w:=by
  have h:=run_convert_int (P:=P) (w:=w) S D .u32 x.toNat hs (by unfold Program.intKind;rw[hd])
  have e:P.intKind D= .u8:=by unfold Program.intKind;rw[hd]
  rw[e]at h
  refine h.trans ?_
  rw[QeL (x:=x.toUInt8)]
  rw[Qcx]
  skip
  rw[UInt32.toNat_toUInt8]
  omega
@[go_sem] theorem QkS (x:UInt32) (hs:(P.underlying S).isSome=true) (hd:P.underlying D=some (.int .u32)):(convert S D (W32 x)).run P w= .ok (W32 x) w:=by
  have h:=run_convert_int (P:=P) (w:=w) S D .u32 x.toNat hs (by unfold Program.intKind;rw[hd])
  have e:P.intKind D= .u32:=by unfold Program.intKind;rw[hd]
  rw[e]at h
  refine h.trans ?_
  rw[QcS (x:=x)]
  rw[QbR]
  have:=x.toNat_lt
  skip
  omega
@[go_sem] theorem QeY (x:UInt32) (hs:(P.underlying S).isSome=true) (hd:P.underlying D=some (.int .u64)):(convert S D (W32 x)).run P w= .ok (W64 x.toUInt64) w:=by
  have h:=run_convert_int (P:=P) (w:=w) S D .u32 x.toNat hs (by unfold Program.intKind;rw[hd])
  have e:P.intKind D= .u64:=by unfold Program.intKind;rw[hd]
  rw[e]at h
  refine h.trans ?_
  rw[QcX (x:=x.toUInt64)]
  rw[QbP]
  have:=x.toNat_lt
  rw[UInt32.toNat_toUInt64]
  omega
@[go_sem] theorem Qj9 (x:UInt32) (hs:(P.underlying S).isSome=true) (hd:P.underlying D=some (.int .i64)):(convert S D (W32 x)).run P w= .ok (.int .i64 (IntKind.i64.wrap x.toNat)) w:=by
  have h:=run_convert_int (P:=P) (w:=w) S D .u32 x.toNat hs (by unfold Program.intKind;rw[hd])
  have e:P.intKind D= .i64:=by unfold Program.intKind;rw[hd]
  rw[e]at h
  exact h
@[go_sem] theorem Qe1 (x:UInt64) (hs:(P.underlying S).isSome=true) (hd:P.underlying D=some (.int .u8)):(convert S D (W64 x)).run P w= .ok (W8 x.toUInt8) w:=by
  have h:=run_convert_int (P:=P) (w:=w) S D .u64 x.toNat hs (by unfold Program.intKind;rw[hd])
  have e:P.intKind D= .u8:=by unfold Program.intKind;rw[hd]
  rw[e]at h
  refine h.trans ?_
  rw[QeL (x:=x.toUInt8)]
  rw[Qcx]
  skip
  rw[QAc]
  omega
@[go_sem] theorem QeW (x:UInt64) (hs:(P.underlying S).isSome=true) (hd:P.underlying D=some (.int .u32)):(convert S D (W64 x)).run P w= .ok (W32 x.toUInt32) w:=by
  have h:=run_convert_int (P:=P) (w:=w) S D .u64 x.toNat hs (by unfold Program.intKind;rw[hd])
  have e:P.intKind D= .u32:=by unfold Program.intKind;rw[hd]
  rw[e]at h
  refine h.trans ?_
  rw[QcS (x:=x.toUInt32)]
  rw[QbR]
  skip
  rw[UInt64.toNat_toUInt32]
  omega
@[go_sem] theorem Qj0 (x:UInt64) (hs:(P.underlying S).isSome=true) (hd:P.underlying D=some (.int .u64)):(convert S D (W64 x)).run P w= .ok (W64 x) w:=by
  have h:=run_convert_int (P:=P) (w:=w) S D .u64 x.toNat hs (by unfold Program.intKind;rw[hd])
  have e:P.intKind D= .u64:=by unfold Program.intKind;rw[hd]
  rw[e]at h
  refine h.trans ?_
  rw[QcX (x:=x)]
  rw[QbP]
  have:=x.toNat_lt
  skip
  omega
@[go_sem] theorem Qkv (x:UInt64) (hs:(P.underlying S).isSome=true) (hd:P.underlying D=some (.int .i64)):(convert S D (W64 x)).run P w= .ok (.int .i64 (IntKind.i64.wrap x.toNat)) w:=by
  have h:=run_convert_int (P:=P) (w:=w) S D .u64 x.toNat hs (by unfold Program.intKind;rw[hd])
  have e:P.intKind D= .i64:=by unfold Program.intKind;rw[hd]
  rw[e]at h
  exact h
end
@[go_sem] theorem Qsd (P:Program) (w:World) (a:Addr) (m:Mode) (x:UInt8):(store a (W8 x) m).run P w=stored P w a (W8 x) m:=run_store P w a _ m rfl
@[go_sem ↓] theorem Qwb (x:UInt8):(W8 x).cells= #[W8 x]:=rfl
@[go_sem] theorem QqI (P:Program) (w:World) (a:Addr) (m:Mode) (x:UInt32):(store a (W32 x) m).run P w=stored P w a (W32 x) m:=run_store P w a _ m rfl
@[go_sem ↓] theorem QvI (x:UInt32):(W32 x).cells= #[W32 x]:=rfl
@[go_sem] theorem Qqj (P:Program) (w:World) (a:Addr) (m:Mode) (x:UInt64):(store a (W64 x) m).run P w=stored P w a (W64 x) m:=run_store P w a _ m rfl
@[go_sem ↓] theorem QvD (x:UInt64):(W64 x).cells= #[W64 x]:=rfl
attribute [go_sem] QtV Qrb Qq2
end Go.Proofs.YtdhgpkdjdmlphaaGreat
