/-
  Lemmas for the last text of this claim (part 2 of 20).
-/
import Derived.BigQuiet
import Derived.BigRegion
import Derived.ChangeOld
import Derived.Deep.RegionWith
import Derived.DeepKeys4
import Derived.JoinedCond
import Derived.LaidMore
import Derived.Laws.CopyOwn
import Derived.Laws.Externs
import Derived.Laws.IdiomStrings
import Derived.Laws.Tables
import Derived.Lib.AppendStr
import Derived.Lib.AppendZerosOnto
import Derived.Lib.Mul64
import Derived.Lib.SlBytesConst
import Derived.LoopN
import Derived.Maps.OwnSet
import Derived.OpenShut
import Derived.OrdersHeld
import Derived.ProofKit
import Derived.Shelf.Spec.BitsCarry
import Derived.ShutString
import Derived.Test.YtkibgdigcgakfabGreatProg
import Derived.Test.YtkibgdigcgakfabGreatRows
import Derived.WalkKit
import Derived.WalkLawsBesides
import Derived.WalkSpells
import Derived.Test.YtkibgdigcgakfabGreatPA
open BitVec renaming ofInt → Qm2, toNat_ushiftRight → Qng
open Bool renaming eq_iff_iff → QmY
open Int renaming natCast_mul → Qnq
open Nat renaming lt_of_lt_of_le → QmL, shiftRight_eq_div_pow → Qne, shiftLeft_eq → Qnu, min_eq_left → Qnw
open UInt32 renaming ofNat → QmM
open UInt64 renaming ofNat → QmB, toNat_ofNat' → QmF, toNat_inj → Qnn
open UInt8 renaming ofNat → QmJ, ofInt → QmZ, toNat_inj → Qm7, toNat_ofNat' → Qnc
namespace Go.Proofs.YtkibgdigcgakfabGreat
open Go.RowKit
def W8 (x : UInt8) : Value := .int .u8 (x.toNat : Int)
def W32 (x : UInt32) : Value := .int .u32 (x.toNat : Int)
def W64 (x : UInt64) : Value := .int .u64 (x.toNat : Int)
theorem Qa2 (n : Int) : IntKind.u8.wrap n = n % 256 := by simp [IntKind.wrap, IntKind.bits, IntKind.signed]
theorem QaP (n : Int) : IntKind.u32.wrap n = n % 4294967296 := by simp [IntKind.wrap, IntKind.bits, IntKind.signed]
theorem QaQ (n : Int) : IntKind.u64.wrap n = n % 18446744073709551616 := by simp [IntKind.wrap, IntKind.bits, IntKind.signed]
theorem Qao {k : Nat} (x : BitVec k) : Qm2 k (x.toNat : Int) = x := by
 apply BitVec.eq_of_toNat_eq
 simp
theorem Qdf (x : UInt8) : ((x.toNat : Int) % 256) = x.toNat := by have := x.toNat_lt; omega
theorem QcH (x : UInt32) : ((x.toNat : Int) % 4294967296) = x.toNat := by have := x.toNat_lt; omega
theorem QcF (x : UInt64) : ((x.toNat : Int) % 18446744073709551616) = x.toNat := by have := x.toNat_lt; omega
def cnt (n : UInt64) : Nat := n.toNat
theorem Qap (T : TypeId) (ox oy : Operand) (op : BinOp) (k k' : IntKind) (x y : Int) : eqGuard op T ox oy (.int k x) (.int k' y) = pure () := by
 cases op <;> rfl
def shl8 (x : UInt8) (n : Nat) : UInt8 := ⟨x.toBitVec <<< n⟩
def shr8 (x : UInt8) (n : Nat) : UInt8 := ⟨x.toBitVec >>> n⟩
theorem QbN {x : UInt8} {n : Int} (h : (x.toNat : Int) = n) : Value.int .u8 n = W8 x := by rw [W8, h]
section
variable (T : TypeId) (ox oy : Operand)
@[go_sem] theorem Qjq (op : BinOp) (x y : UInt8) : eqGuard op T ox oy (W8 x) (W8 y) = pure () := Qap ..
@[go_sem] theorem QiQ (op : BinOp) (x : UInt8) (k : IntKind) (y : Int) : eqGuard op T ox oy (W8 x) (.int k y) = pure () := Qap ..
@[go_sem] theorem Qjd (op : BinOp) (x : UInt8) (k : IntKind) (y : Int) : eqGuard op T ox oy (.int k y) (W8 x) = pure () := Qap ..
theorem QaE (n : Int) (h0 : 0 ≤ n) (h1 : n < 256) : Value.int .u8 n = W8 (QmJ n.toNat) := by
 apply QbN
 rw [Qnc]
 omega
theorem QeG (n : Int) : (QmZ n).toNat = (n % 256).toNat := by
 simp [QmZ, Qnc]
 try omega
theorem Qjh (n : Int) : Value.int .u8 (IntKind.wrap .u8 n) = W8 (QmZ n) := by
 apply QbN
 rw [Qa2]
 have := QeG n
 omega
@[go_sem] theorem Qh1 (x y : UInt8) : binOp .add T (W8 x) (W8 y) = pure (W8 (x + y)) := by
  show binOp .add T (.int .u8 x.toNat) (.int .u8 y.toNat) = _
  rw [binOp_add]
  simp only [Op.intArith]
  rw [QbN (x := x + y)]
  rw [Qa2, UInt8.toNat_add]
  omega
@[go_sem] theorem QlF (x : UInt8) (n : Int) (h0 : 0 ≤ n) (h1 : n < 256) : binOp .add T (W8 x) (.int .u8 n) = pure (W8 (x + QmJ n.toNat)) := by
  rw [QaE n h0 h1]
  exact Qh1 T x _
@[go_sem] theorem Qmh (y : UInt8) (n : Int) (h0 : 0 ≤ n) (h1 : n < 256) : binOp .add T (.int .u8 n) (W8 y) = pure (W8 (QmJ n.toNat + y)) := by
  rw [QaE n h0 h1]
  exact Qh1 T _ y
@[go_sem] theorem QhY (x y : UInt8) : binOp .sub T (W8 x) (W8 y) = pure (W8 (x - y)) := by
  show binOp .sub T (.int .u8 x.toNat) (.int .u8 y.toNat) = _
  rw [binOp_sub]
  simp only [Op.intArith]
  rw [QbN (x := x - y)]
  rw [Qa2, UInt8.toNat_sub]
  have := y.toNat_lt
  omega
@[go_sem] theorem Ql0 (x : UInt8) (n : Int) (h0 : 0 ≤ n) (h1 : n < 256) : binOp .sub T (W8 x) (.int .u8 n) = pure (W8 (x - QmJ n.toNat)) := by
  rw [QaE n h0 h1]
  exact QhY T x _
@[go_sem] theorem Qmj (y : UInt8) (n : Int) (h0 : 0 ≤ n) (h1 : n < 256) : binOp .sub T (.int .u8 n) (W8 y) = pure (W8 (QmJ n.toNat - y)) := by
  rw [QaE n h0 h1]
  exact QhY T _ y
@[go_sem] theorem QhI (x y : UInt8) : binOp .mul T (W8 x) (W8 y) = pure (W8 (x * y)) := by
  show binOp .mul T (.int .u8 x.toNat) (.int .u8 y.toNat) = _
  rw [binOp_mul]
  simp only [Op.intArith]
  rw [QbN (x := x * y)]
  rw [Qa2, UInt8.toNat_mul, ← Qnq]
  omega
@[go_sem] theorem Ql1 (x : UInt8) (n : Int) (h0 : 0 ≤ n) (h1 : n < 256) : binOp .mul T (W8 x) (.int .u8 n) = pure (W8 (x * QmJ n.toNat)) := by
  rw [QaE n h0 h1]
  exact QhI T x _
@[go_sem] theorem QlK (y : UInt8) (n : Int) (h0 : 0 ≤ n) (h1 : n < 256) : binOp .mul T (.int .u8 n) (W8 y) = pure (W8 (QmJ n.toNat * y)) := by
  rw [QaE n h0 h1]
  exact QhI T _ y
@[go_sem] theorem QhR (x y : UInt8) : binOp .and T (W8 x) (W8 y) = pure (W8 (x &&& y)) := by
  show binOp .and T (.int .u8 x.toNat) (.int .u8 y.toNat) = _
  rw [binOp_and]
  simp only [Op.intBits]
  rw [QbN (x := x &&& y)]
  have e1 : Qm2 (IntKind.bits .u8) (x.toNat : Int) = x.toBitVec := Qao x.toBitVec
  have e2 : Qm2 (IntKind.bits .u8) (y.toNat : Int) = y.toBitVec := Qao y.toBitVec
  rw [e1, e2, Qa2]
  exact (Qdf (x &&& y)).symm
@[go_sem] theorem QlX (x : UInt8) (n : Int) (h0 : 0 ≤ n) (h1 : n < 256) : binOp .and T (W8 x) (.int .u8 n) = pure (W8 (x &&& QmJ n.toNat)) := by
  rw [QaE n h0 h1]
  exact QhR T x _
@[go_sem] theorem Qlt (y : UInt8) (n : Int) (h0 : 0 ≤ n) (h1 : n < 256) : binOp .and T (.int .u8 n) (W8 y) = pure (W8 (QmJ n.toNat &&& y)) := by
  rw [QaE n h0 h1]
  exact QhR T _ y
@[go_sem] theorem QjT (x y : UInt8) : binOp .or T (W8 x) (W8 y) = pure (W8 (x ||| y)) := by
  show binOp .or T (.int .u8 x.toNat) (.int .u8 y.toNat) = _
  rw [binOp_or]
  simp only [Op.intBits]
  rw [QbN (x := x ||| y)]
  have e1 : Qm2 (IntKind.bits .u8) (x.toNat : Int) = x.toBitVec := Qao x.toBitVec
  have e2 : Qm2 (IntKind.bits .u8) (y.toNat : Int) = y.toBitVec := Qao y.toBitVec
  rw [e1, e2, Qa2]
  exact (Qdf (x ||| y)).symm
@[go_sem] theorem Qmq (x : UInt8) (n : Int) (h0 : 0 ≤ n) (h1 : n < 256) : binOp .or T (W8 x) (.int .u8 n) = pure (W8 (x ||| QmJ n.toNat)) := by
  rw [QaE n h0 h1]
  exact QjT T x _
@[go_sem] theorem Qmp (y : UInt8) (n : Int) (h0 : 0 ≤ n) (h1 : n < 256) : binOp .or T (.int .u8 n) (W8 y) = pure (W8 (QmJ n.toNat ||| y)) := by
  rw [QaE n h0 h1]
  exact QjT T _ y
@[go_sem] theorem QhW (x y : UInt8) : binOp .xor T (W8 x) (W8 y) = pure (W8 (x ^^^ y)) := by
  show binOp .xor T (.int .u8 x.toNat) (.int .u8 y.toNat) = _
  rw [binOp_xor]
  simp only [Op.intBits]
  rw [QbN (x := x ^^^ y)]
  have e1 : Qm2 (IntKind.bits .u8) (x.toNat : Int) = x.toBitVec := Qao x.toBitVec
  have e2 : Qm2 (IntKind.bits .u8) (y.toNat : Int) = y.toBitVec := Qao y.toBitVec
  rw [e1, e2, Qa2]
  exact (Qdf (x ^^^ y)).symm
@[go_sem] theorem Qmd (x : UInt8) (n : Int) (h0 : 0 ≤ n) (h1 : n < 256) : binOp .xor T (W8 x) (.int .u8 n) = pure (W8 (x ^^^ QmJ n.toNat)) := by
  rw [QaE n h0 h1]
  exact QhW T x _
@[go_sem] theorem Qix (y : UInt8) (n : Int) (h0 : 0 ≤ n) (h1 : n < 256) : binOp .xor T (.int .u8 n) (W8 y) = pure (W8 (QmJ n.toNat ^^^ y)) := by
  rw [QaE n h0 h1]
  exact QhW T _ y
@[go_sem] theorem QhJ (x y : UInt8) : binOp .eql T (W8 x) (W8 y) = pure (.bool (x == y)) := by
  show binOp .eql T (.int .u8 x.toNat) (.int .u8 y.toNat) = _
  rw [binOp_eql]
  have : ((x.toNat : Int) == (y.toNat : Int)) = (x == y) := by
   rw [QmY, beq_iff_eq, beq_iff_eq, ← Qm7]
   omega
  simp only [this]
@[go_sem] theorem Qmi (x : UInt8) (n : Int) (h0 : 0 ≤ n) (h1 : n < 256) : binOp .eql T (W8 x) (.int .u8 n) = pure (.bool (x == (QmJ n.toNat))) := by
  rw [QaE n h0 h1]
  exact QhJ T x _
@[go_sem] theorem Qly (y : UInt8) (n : Int) (h0 : 0 ≤ n) (h1 : n < 256) : binOp .eql T (.int .u8 n) (W8 y) = pure (.bool ((QmJ n.toNat) == y)) := by
  rw [QaE n h0 h1]
  exact QhJ T _ y
@[go_sem] theorem QhO (x y : UInt8) : binOp .neq T (W8 x) (W8 y) = pure (.bool (x != y)) := by
  show binOp .neq T (.int .u8 x.toNat) (.int .u8 y.toNat) = _
  rw [binOp_neq]
  have : ((x.toNat : Int) == (y.toNat : Int)) = (x == y) := by
   rw [QmY, beq_iff_eq, beq_iff_eq, ← Qm7]
   omega
  simp only [bne, this]
@[go_sem] theorem QlM (x : UInt8) (n : Int) (h0 : 0 ≤ n) (h1 : n < 256) : binOp .neq T (W8 x) (.int .u8 n) = pure (.bool (x != (QmJ n.toNat))) := by
  rw [QaE n h0 h1]
  exact QhO T x _
@[go_sem] theorem Qme (y : UInt8) (n : Int) (h0 : 0 ≤ n) (h1 : n < 256) : binOp .neq T (.int .u8 n) (W8 y) = pure (.bool ((QmJ n.toNat) != y)) := by
  rw [QaE n h0 h1]
  exact QhO T _ y
@[go_sem] theorem Qia (x y : UInt8) : binOp .lss T (W8 x) (W8 y) = pure (.bool (decide (x < y))) := by
  show binOp .lss T (.int .u8 x.toNat) (.int .u8 y.toNat) = _
  rw [binOp_lss]
  congr 2
  rw [decide_eq_decide, UInt8.lt_iff_toNat_lt]
  omega
@[go_sem] theorem QlQ (x : UInt8) (n : Int) (h0 : 0 ≤ n) (h1 : n < 256) : binOp .lss T (W8 x) (.int .u8 n) = pure (.bool (decide (x < (QmJ n.toNat)))) := by
  rw [QaE n h0 h1]
  exact Qia T x _
@[go_sem] theorem Ql5 (y : UInt8) (n : Int) (h0 : 0 ≤ n) (h1 : n < 256) : binOp .lss T (.int .u8 n) (W8 y) = pure (.bool (decide ((QmJ n.toNat) < y))) := by
  rw [QaE n h0 h1]
  exact Qia T _ y
@[go_sem] theorem Qh9 (x y : UInt8) : binOp .leq T (W8 x) (W8 y) = pure (.bool (decide (x ≤ y))) := by
  show binOp .leq T (.int .u8 x.toNat) (.int .u8 y.toNat) = _
  rw [binOp_leq]
  congr 2
  rw [decide_eq_decide, UInt8.le_iff_toNat_le]
  omega
@[go_sem] theorem Qlp (x : UInt8) (n : Int) (h0 : 0 ≤ n) (h1 : n < 256) : binOp .leq T (W8 x) (.int .u8 n) = pure (.bool (decide (x ≤ (QmJ n.toNat)))) := by
  rw [QaE n h0 h1]
  exact Qh9 T x _
@[go_sem] theorem Ql2 (y : UInt8) (n : Int) (h0 : 0 ≤ n) (h1 : n < 256) : binOp .leq T (.int .u8 n) (W8 y) = pure (.bool (decide ((QmJ n.toNat) ≤ y))) := by
  rw [QaE n h0 h1]
  exact Qh9 T _ y
@[go_sem] theorem QhZ (x y : UInt8) : binOp .gtr T (W8 x) (W8 y) = pure (.bool (decide (y < x))) := by
  show binOp .gtr T (.int .u8 x.toNat) (.int .u8 y.toNat) = _
  rw [binOp_gtr]
  congr 2
  rw [decide_eq_decide, UInt8.lt_iff_toNat_lt]
  omega
@[go_sem] theorem Qmb (x : UInt8) (n : Int) (h0 : 0 ≤ n) (h1 : n < 256) : binOp .gtr T (W8 x) (.int .u8 n) = pure (.bool (decide ((QmJ n.toNat) < x))) := by
  rw [QaE n h0 h1]
  exact QhZ T x _
@[go_sem] theorem QlP (y : UInt8) (n : Int) (h0 : 0 ≤ n) (h1 : n < 256) : binOp .gtr T (.int .u8 n) (W8 y) = pure (.bool (decide (y < (QmJ n.toNat)))) := by
  rw [QaE n h0 h1]
  exact QhZ T _ y
@[go_sem] theorem Qif (x y : UInt8) : binOp .geq T (W8 x) (W8 y) = pure (.bool (decide (y ≤ x))) := by
  show binOp .geq T (.int .u8 x.toNat) (.int .u8 y.toNat) = _
  rw [binOp_geq]
  congr 2
  rw [decide_eq_decide, UInt8.le_iff_toNat_le]
  omega
@[go_sem] theorem Qmf (x : UInt8) (n : Int) (h0 : 0 ≤ n) (h1 : n < 256) : binOp .geq T (W8 x) (.int .u8 n) = pure (.bool (decide ((QmJ n.toNat) ≤ x))) := by
  rw [QaE n h0 h1]
  exact Qif T x _
@[go_sem] theorem QlI (y : UInt8) (n : Int) (h0 : 0 ≤ n) (h1 : n < 256) : binOp .geq T (.int .u8 n) (W8 y) = pure (.bool (decide (y ≤ (QmJ n.toNat)))) := by
  rw [QaE n h0 h1]
  exact Qif T _ y
@[go_sem] theorem QhM (x y : UInt8) (hy : ¬ ((y).toNat : Int) = 0) : binOp .quo T (W8 x) (W8 y) = pure (W8 (x / y)) := by
  show binOp .quo T (.int .u8 x.toNat) (.int .u8 y.toNat) = _
  rw [binOp_quo]
  simp only [Op.intDiv]
  rw [if_neg hy, QbN (x := x / y)]
  rw [Qa2, UInt8.toNat_div, Int.tdiv_eq_ediv_of_nonneg (by omega), ← Int.natCast_ediv]
  have h1 := Nat.div_le_self x.toNat y.toNat
  have h2 := x.toNat_lt
  generalize x.toNat / y.toNat = q at *
  omega
@[go_sem] theorem QlD (x : UInt8) (n : Int) (h0 : 0 ≤ n) (h1 : n < 256) (hy : ¬ ((QmJ n.toNat).toNat : Int) = 0) : binOp .quo T (W8 x) (.int .u8 n) = pure (W8 (x / (QmJ n.toNat))) := by
  rw [QaE n h0 h1]
  exact QhM T x _ hy
@[go_sem] theorem Ql8 (y : UInt8) (n : Int) (h0 : 0 ≤ n) (h1 : n < 256) (hy : ¬ ((y).toNat : Int) = 0) : binOp .quo T (.int .u8 n) (W8 y) = pure (W8 (QmJ n.toNat / y)) := by
  rw [QaE n h0 h1]
  exact QhM T _ y hy
@[go_sem] theorem Qh5 (x y : UInt8) (hy : ¬ ((y).toNat : Int) = 0) : binOp .rem T (W8 x) (W8 y) = pure (W8 (x % y)) := by
  show binOp .rem T (.int .u8 x.toNat) (.int .u8 y.toNat) = _
  rw [binOp_rem]
  simp only [Op.intDiv]
  rw [if_neg hy, QbN (x := x % y)]
  rw [UInt8.toNat_mod, Int.tmod_eq_emod_of_nonneg (by omega), ← Int.natCast_emod]
@[go_sem] theorem QlL (x : UInt8) (n : Int) (h0 : 0 ≤ n) (h1 : n < 256) (hy : ¬ ((QmJ n.toNat).toNat : Int) = 0) : binOp .rem T (W8 x) (.int .u8 n) = pure (W8 (x % (QmJ n.toNat))) := by
  rw [QaE n h0 h1]
  exact Qh5 T x _ hy
@[go_sem] theorem Qmk (y : UInt8) (n : Int) (h0 : 0 ≤ n) (h1 : n < 256) (hy : ¬ ((y).toNat : Int) = 0) : binOp .rem T (.int .u8 n) (W8 y) = pure (W8 (QmJ n.toNat % y)) := by
  rw [QaE n h0 h1]
  exact Qh5 T _ y hy
theorem Qgs (x : UInt8) (yk : IntKind) (n : Int) (h0 : 0 ≤ n) : binOp .shl T (W8 x) (.int yk n) = pure (W8 (shl8 x n.toNat)) := by
 show binOp .shl T (.int .u8 x.toNat) (.int yk n) = _
 rw [binOp_shl]
 simp only [Op.shift]
 rw [if_neg (by omega), QbN (x := shl8 x n.toNat)]
 have e : (shl8 x n.toNat).toNat = (x.toNat * 2 ^ n.toNat) % 256 := by
  show (x.toBitVec <<< n.toNat).toNat = _
  rw [BitVec.toNat_shiftLeft, Qnu]
  rfl
 rw [Qa2, e]
 have hb : IntKind.bits .u8 = 8 := rfl
 rw [hb]
 rcases Nat.le_total n.toNat 8 with h | h
 · rw [Qnw h]
   have : ((2 : Int) ^ n.toNat) = ((2 ^ n.toNat : Nat) : Int) := by simp
   rw [this, ← Qnq]
   omega
 · rw [Nat.min_eq_right h]
   obtain ⟨d, hd⟩ := Nat.exists_eq_add_of_le h
   have e1 : x.toNat * 2 ^ n.toNat = 256 * (x.toNat * 2 ^ d) := by rw [hd, Nat.pow_add]; show x.toNat * (256 * 2 ^ d) = _; rw [Nat.mul_left_comm]
   rw [e1, Nat.mul_mod_right]
   omega
@[go_sem] theorem Qmt (x : UInt8) (yk : IntKind) (n : Int) : binOp .shl T (W8 x) (.int yk n) = if n < 0 then runtimePanic (.error "negative shift amount") else pure (W8 (shl8 x n.toNat)) := by
  by_cases h : n < 0
  · rw [if_pos h]
    show binOp .shl T (.int .u8 x.toNat) (.int yk n) = _
    rw [binOp_shl]
    simp only [Op.shift]
    rw [if_pos h]
  · rw [if_neg h]
    exact Qgs T x yk n (by omega)
theorem QfS (x : UInt8) (yk : IntKind) (n : Int) (h0 : 0 ≤ n) : binOp .shr T (W8 x) (.int yk n) = pure (W8 (shr8 x n.toNat)) := by
 show binOp .shr T (.int .u8 x.toNat) (.int yk n) = _
 rw [binOp_shr]
 simp only [Op.shift]
 rw [if_neg (by omega), QbN (x := shr8 x n.toNat)]
 have e : (shr8 x n.toNat).toNat = x.toNat / 2 ^ n.toNat := by
  show (x.toBitVec >>> n.toNat).toNat = _
  rw [Qng, Qne]
  rfl
 rw [e]
 have hb : IntKind.bits .u8 = 8 := rfl
 rw [hb]
 have hx := x.toNat_lt
 have ep : ∀ m : Nat, ((2 : Int) ^ m) = ((2 ^ m : Nat) : Int) := fun m => by simp
 rw [ep, Int.fdiv_eq_ediv_of_nonneg _ (Int.natCast_nonneg _), ← Int.natCast_ediv]
 rcases Nat.le_total n.toNat 8 with h | h
 · rw [Qnw h]
 · rw [Nat.min_eq_right h]
   have h1 : x.toNat / 2 ^ 8 = 0 := Nat.div_eq_of_lt (by simpa using hx)
   have h2 : x.toNat / 2 ^ n.toNat = 0 := Nat.div_eq_of_lt (QmL (by simpa using hx) (Nat.pow_le_pow_right (by omega) h))
   rw [h1, h2]
@[go_sem] theorem Qmu (x : UInt8) (yk : IntKind) (n : Int) : binOp .shr T (W8 x) (.int yk n) = if n < 0 then runtimePanic (.error "negative shift amount") else pure (W8 (shr8 x n.toNat)) := by
  by_cases h : n < 0
  · rw [if_pos h]
    show binOp .shr T (.int .u8 x.toNat) (.int yk n) = _
    rw [binOp_shr]
    simp only [Op.shift]
    rw [if_pos h]
  · rw [if_neg h]
    exact QfS T x yk n (by omega)
@[go_sem] theorem QlN (x : UInt8) (n : UInt64) : binOp .shl T (W8 x) (W64 n) = pure (W8 (shl8 x (cnt n))) := Qgs T x .u64 n.toNat (by omega)
@[go_sem] theorem Ql7 (x : UInt8) (n : UInt64) : binOp .shr T (W8 x) (W64 n) = pure (W8 (shr8 x (cnt n))) := QfS T x .u64 n.toNat (by omega)
@[go_sem] theorem QhS (x : UInt8) : Op.unary .xor (W8 x) = pure (W8 (~~~x)) := by
  have h : binOp .xor 0 (.int .u8 (255 : Int)) (W8 x) = pure (W8 (~~~x)) := by
   rw [Qix 0 x 255 (by omega) (by omega)]
   congr 2
  exact h
end
def Qdt (x : UInt32) (n : Nat) : UInt32 := ⟨x.toBitVec <<< n⟩
def Qcb (x : UInt32) (n : Nat) : UInt32 := ⟨x.toBitVec >>> n⟩
theorem Qa6 {x : UInt32} {n : Int} (h : (x.toNat : Int) = n) : Value.int .u32 n = W32 x := by rw [W32, h]
section
variable (T : TypeId) (ox oy : Operand)
@[go_sem] theorem Qi9 (op : BinOp) (x y : UInt32) : eqGuard op T ox oy (W32 x) (W32 y) = pure () := Qap ..
@[go_sem] theorem Qh8 (op : BinOp) (x : UInt32) (k : IntKind) (y : Int) : eqGuard op T ox oy (W32 x) (.int k y) = pure () := Qap ..
@[go_sem] theorem QhK (op : BinOp) (x : UInt32) (k : IntKind) (y : Int) : eqGuard op T ox oy (.int k y) (W32 x) = pure () := Qap ..
theorem Qar (n : Int) (h0 : 0 ≤ n) (h1 : n < 4294967296) : Value.int .u32 n = W32 (QmM n.toNat) := by
 apply Qa6
 rw [UInt32.toNat_ofNat']
 omega
theorem Qgp (n : Int) : (UInt32.ofInt n).toNat = (n % 4294967296).toNat := by
 simp [UInt32.ofInt, UInt32.toNat_ofNat']
 try omega
theorem Qg6 (n : Int) : Value.int .u32 (IntKind.wrap .u32 n) = W32 (UInt32.ofInt n) := by
 apply Qa6
 rw [QaP]
 have := Qgp n
 omega
@[go_sem] theorem QgC (x y : UInt32) : binOp .add T (W32 x) (W32 y) = pure (W32 (x + y)) := by
  show binOp .add T (.int .u32 x.toNat) (.int .u32 y.toNat) = _
  rw [binOp_add]
  simp only [Op.intArith]
  rw [Qa6 (x := x + y)]
  rw [QaP, UInt32.toNat_add]
  omega
@[go_sem] theorem QkP (x : UInt32) (n : Int) (h0 : 0 ≤ n) (h1 : n < 4294967296) : binOp .add T (W32 x) (.int .u32 n) = pure (W32 (x + QmM n.toNat)) := by
  rw [Qar n h0 h1]
  exact QgC T x _
@[go_sem] theorem QkM (y : UInt32) (n : Int) (h0 : 0 ≤ n) (h1 : n < 4294967296) : binOp .add T (.int .u32 n) (W32 y) = pure (W32 (QmM n.toNat + y)) := by
  rw [Qar n h0 h1]
  exact QgC T _ y
@[go_sem] theorem QgH (x y : UInt32) : binOp .sub T (W32 x) (W32 y) = pure (W32 (x - y)) := by
  show binOp .sub T (.int .u32 x.toNat) (.int .u32 y.toNat) = _
  rw [binOp_sub]
  simp only [Op.intArith]
  rw [Qa6 (x := x - y)]
  rw [QaP, UInt32.toNat_sub]
  have := y.toNat_lt
  omega
@[go_sem] theorem Qkl (x : UInt32) (n : Int) (h0 : 0 ≤ n) (h1 : n < 4294967296) : binOp .sub T (W32 x) (.int .u32 n) = pure (W32 (x - QmM n.toNat)) := by
  rw [Qar n h0 h1]
  exact QgH T x _
@[go_sem] theorem QkE (y : UInt32) (n : Int) (h0 : 0 ≤ n) (h1 : n < 4294967296) : binOp .sub T (.int .u32 n) (W32 y) = pure (W32 (QmM n.toNat - y)) := by
  rw [Qar n h0 h1]
  exact QgH T _ y
@[go_sem] theorem Qgj (x y : UInt32) : binOp .mul T (W32 x) (W32 y) = pure (W32 (x * y)) := by
  show binOp .mul T (.int .u32 x.toNat) (.int .u32 y.toNat) = _
  rw [binOp_mul]
  simp only [Op.intArith]
  rw [Qa6 (x := x * y)]
  rw [QaP, UInt32.toNat_mul, ← Qnq]
  omega
@[go_sem] theorem Qk5 (x : UInt32) (n : Int) (h0 : 0 ≤ n) (h1 : n < 4294967296) : binOp .mul T (W32 x) (.int .u32 n) = pure (W32 (x * QmM n.toNat)) := by
  rw [Qar n h0 h1]
  exact Qgj T x _
@[go_sem] theorem QkN (y : UInt32) (n : Int) (h0 : 0 ≤ n) (h1 : n < 4294967296) : binOp .mul T (.int .u32 n) (W32 y) = pure (W32 (QmM n.toNat * y)) := by
  rw [Qar n h0 h1]
  exact Qgj T _ y
@[go_sem] theorem QfN (x y : UInt32) : binOp .and T (W32 x) (W32 y) = pure (W32 (x &&& y)) := by
  show binOp .and T (.int .u32 x.toNat) (.int .u32 y.toNat) = _
  rw [binOp_and]
  simp only [Op.intBits]
  rw [Qa6 (x := x &&& y)]
  have e1 : Qm2 (IntKind.bits .u32) (x.toNat : Int) = x.toBitVec := Qao x.toBitVec
  have e2 : Qm2 (IntKind.bits .u32) (y.toNat : Int) = y.toBitVec := Qao y.toBitVec
  rw [e1, e2, QaP]
  exact (QcH (x &&& y)).symm
@[go_sem] theorem QkY (x : UInt32) (n : Int) (h0 : 0 ≤ n) (h1 : n < 4294967296) : binOp .and T (W32 x) (.int .u32 n) = pure (W32 (x &&& QmM n.toNat)) := by
  rw [Qar n h0 h1]
  exact QfN T x _
@[go_sem] theorem Qk7 (y : UInt32) (n : Int) (h0 : 0 ≤ n) (h1 : n < 4294967296) : binOp .and T (.int .u32 n) (W32 y) = pure (W32 (QmM n.toNat &&& y)) := by
  rw [Qar n h0 h1]
  exact QfN T _ y
@[go_sem] theorem QhG (x y : UInt32) : binOp .or T (W32 x) (W32 y) = pure (W32 (x ||| y)) := by
  show binOp .or T (.int .u32 x.toNat) (.int .u32 y.toNat) = _
  rw [binOp_or]
  simp only [Op.intBits]
  rw [Qa6 (x := x ||| y)]
  have e1 : Qm2 (IntKind.bits .u32) (x.toNat : Int) = x.toBitVec := Qao x.toBitVec
  have e2 : Qm2 (IntKind.bits .u32) (y.toNat : Int) = y.toBitVec := Qao y.toBitVec
  rw [e1, e2, QaP]
  exact (QcH (x ||| y)).symm
@[go_sem] theorem QlH (x : UInt32) (n : Int) (h0 : 0 ≤ n) (h1 : n < 4294967296) : binOp .or T (W32 x) (.int .u32 n) = pure (W32 (x ||| QmM n.toNat)) := by
  rw [Qar n h0 h1]
  exact QhG T x _
@[go_sem] theorem Qmo (y : UInt32) (n : Int) (h0 : 0 ≤ n) (h1 : n < 4294967296) : binOp .or T (.int .u32 n) (W32 y) = pure (W32 (QmM n.toNat ||| y)) := by
  rw [Qar n h0 h1]
  exact QhG T _ y
@[go_sem] theorem Qgg (x y : UInt32) : binOp .xor T (W32 x) (W32 y) = pure (W32 (x ^^^ y)) := by
  show binOp .xor T (.int .u32 x.toNat) (.int .u32 y.toNat) = _
  rw [binOp_xor]
  simp only [Op.intBits]
  rw [Qa6 (x := x ^^^ y)]
  have e1 : Qm2 (IntKind.bits .u32) (x.toNat : Int) = x.toBitVec := Qao x.toBitVec
  have e2 : Qm2 (IntKind.bits .u32) (y.toNat : Int) = y.toBitVec := Qao y.toBitVec
  rw [e1, e2, QaP]
  exact (QcH (x ^^^ y)).symm
@[go_sem] theorem Qlf (x : UInt32) (n : Int) (h0 : 0 ≤ n) (h1 : n < 4294967296) : binOp .xor T (W32 x) (.int .u32 n) = pure (W32 (x ^^^ QmM n.toNat)) := by
  rw [Qar n h0 h1]
  exact Qgg T x _
@[go_sem] theorem Qhj (y : UInt32) (n : Int) (h0 : 0 ≤ n) (h1 : n < 4294967296) : binOp .xor T (.int .u32 n) (W32 y) = pure (W32 (QmM n.toNat ^^^ y)) := by
  rw [Qar n h0 h1]
  exact Qgg T _ y
@[go_sem] theorem Qez (x y : UInt32) : binOp .eql T (W32 x) (W32 y) = pure (.bool (x == y)) := by
  show binOp .eql T (.int .u32 x.toNat) (.int .u32 y.toNat) = _
  rw [binOp_eql]
  have : ((x.toNat : Int) == (y.toNat : Int)) = (x == y) := by
   rw [QmY, beq_iff_eq, beq_iff_eq, ← UInt32.toNat_inj]
   omega
  simp only [this]
@[go_sem] theorem QkH (x : UInt32) (n : Int) (h0 : 0 ≤ n) (h1 : n < 4294967296) : binOp .eql T (W32 x) (.int .u32 n) = pure (.bool (x == (QmM n.toNat))) := by
  rw [Qar n h0 h1]
  exact Qez T x _
@[go_sem] theorem Qk6 (y : UInt32) (n : Int) (h0 : 0 ≤ n) (h1 : n < 4294967296) : binOp .eql T (.int .u32 n) (W32 y) = pure (.bool ((QmM n.toNat) == y)) := by
  rw [Qar n h0 h1]
  exact Qez T _ y
@[go_sem] theorem Qgf (x y : UInt32) : binOp .neq T (W32 x) (W32 y) = pure (.bool (x != y)) := by
  show binOp .neq T (.int .u32 x.toNat) (.int .u32 y.toNat) = _
  rw [binOp_neq]
  have : ((x.toNat : Int) == (y.toNat : Int)) = (x == y) := by
   rw [QmY, beq_iff_eq, beq_iff_eq, ← UInt32.toNat_inj]
   omega
  simp only [bne, this]
@[go_sem] theorem Qk8 (x : UInt32) (n : Int) (h0 : 0 ≤ n) (h1 : n < 4294967296) : binOp .neq T (W32 x) (.int .u32 n) = pure (.bool (x != (QmM n.toNat))) := by
  rw [Qar n h0 h1]
  exact Qgf T x _
@[go_sem] theorem QkL (y : UInt32) (n : Int) (h0 : 0 ≤ n) (h1 : n < 4294967296) : binOp .neq T (.int .u32 n) (W32 y) = pure (.bool ((QmM n.toNat) != y)) := by
  rw [Qar n h0 h1]
  exact Qgf T _ y
@[go_sem] theorem QgG (x y : UInt32) : binOp .lss T (W32 x) (W32 y) = pure (.bool (decide (x < y))) := by
  show binOp .lss T (.int .u32 x.toNat) (.int .u32 y.toNat) = _
  rw [binOp_lss]
  congr 2
  rw [decide_eq_decide, UInt32.lt_iff_toNat_lt]
  omega
@[go_sem] theorem Qkn (x : UInt32) (n : Int) (h0 : 0 ≤ n) (h1 : n < 4294967296) : binOp .lss T (W32 x) (.int .u32 n) = pure (.bool (decide (x < (QmM n.toNat)))) := by
  rw [Qar n h0 h1]
  exact QgG T x _
@[go_sem] theorem QkU (y : UInt32) (n : Int) (h0 : 0 ≤ n) (h1 : n < 4294967296) : binOp .lss T (.int .u32 n) (W32 y) = pure (.bool (decide ((QmM n.toNat) < y))) := by
  rw [Qar n h0 h1]
  exact QgG T _ y
@[go_sem] theorem Qf1 (x y : UInt32) : binOp .leq T (W32 x) (W32 y) = pure (.bool (decide (x ≤ y))) := by
  show binOp .leq T (.int .u32 x.toNat) (.int .u32 y.toNat) = _
  rw [binOp_leq]
  congr 2
  rw [decide_eq_decide, UInt32.le_iff_toNat_le]
  omega
@[go_sem] theorem Qkq (x : UInt32) (n : Int) (h0 : 0 ≤ n) (h1 : n < 4294967296) : binOp .leq T (W32 x) (.int .u32 n) = pure (.bool (decide (x ≤ (QmM n.toNat)))) := by
  rw [Qar n h0 h1]
  exact Qf1 T x _
@[go_sem] theorem Qkt (y : UInt32) (n : Int) (h0 : 0 ≤ n) (h1 : n < 4294967296) : binOp .leq T (.int .u32 n) (W32 y) = pure (.bool (decide ((QmM n.toNat) ≤ y))) := by
  rw [Qar n h0 h1]
  exact Qf1 T _ y
@[go_sem] theorem QgQ (x y : UInt32) : binOp .gtr T (W32 x) (W32 y) = pure (.bool (decide (y < x))) := by
  show binOp .gtr T (.int .u32 x.toNat) (.int .u32 y.toNat) = _
  rw [binOp_gtr]
  congr 2
  rw [decide_eq_decide, UInt32.lt_iff_toNat_lt]
  omega
@[go_sem] theorem Qln (x : UInt32) (n : Int) (h0 : 0 ≤ n) (h1 : n < 4294967296) : binOp .gtr T (W32 x) (.int .u32 n) = pure (.bool (decide ((QmM n.toNat) < x))) := by
  rw [Qar n h0 h1]
  exact QgQ T x _
@[go_sem] theorem Qla (y : UInt32) (n : Int) (h0 : 0 ≤ n) (h1 : n < 4294967296) : binOp .gtr T (.int .u32 n) (W32 y) = pure (.bool (decide (y < (QmM n.toNat)))) := by
  rw [Qar n h0 h1]
  exact QgQ T _ y
@[go_sem] theorem QfK (x y : UInt32) : binOp .geq T (W32 x) (W32 y) = pure (.bool (decide (y ≤ x))) := by
  show binOp .geq T (.int .u32 x.toNat) (.int .u32 y.toNat) = _
  rw [binOp_geq]
  congr 2
  rw [decide_eq_decide, UInt32.le_iff_toNat_le]
  omega
@[go_sem] theorem QkK (x : UInt32) (n : Int) (h0 : 0 ≤ n) (h1 : n < 4294967296) : binOp .geq T (W32 x) (.int .u32 n) = pure (.bool (decide ((QmM n.toNat) ≤ x))) := by
  rw [Qar n h0 h1]
  exact QfK T x _
@[go_sem] theorem QkO (y : UInt32) (n : Int) (h0 : 0 ≤ n) (h1 : n < 4294967296) : binOp .geq T (.int .u32 n) (W32 y) = pure (.bool (decide (y ≤ (QmM n.toNat)))) := by
  rw [Qar n h0 h1]
  exact QfK T _ y
@[go_sem] theorem Qf9 (x y : UInt32) (hy : ¬ ((y).toNat : Int) = 0) : binOp .quo T (W32 x) (W32 y) = pure (W32 (x / y)) := by
  show binOp .quo T (.int .u32 x.toNat) (.int .u32 y.toNat) = _
  rw [binOp_quo]
  simp only [Op.intDiv]
  rw [if_neg hy, Qa6 (x := x / y)]
  rw [QaP, UInt32.toNat_div, Int.tdiv_eq_ediv_of_nonneg (by omega), ← Int.natCast_ediv]
  have h1 := Nat.div_le_self x.toNat y.toNat
  have h2 := x.toNat_lt
  generalize x.toNat / y.toNat = q at *
  omega
@[go_sem] theorem Qlb (x : UInt32) (n : Int) (h0 : 0 ≤ n) (h1 : n < 4294967296) (hy : ¬ ((QmM n.toNat).toNat : Int) = 0) : binOp .quo T (W32 x) (.int .u32 n) = pure (W32 (x / (QmM n.toNat))) := by
  rw [Qar n h0 h1]
  exact Qf9 T x _ hy
@[go_sem] theorem Qlc (y : UInt32) (n : Int) (h0 : 0 ≤ n) (h1 : n < 4294967296) (hy : ¬ ((y).toNat : Int) = 0) : binOp .quo T (.int .u32 n) (W32 y) = pure (W32 (QmM n.toNat / y)) := by
  rw [Qar n h0 h1]
  exact Qf9 T _ y hy
@[go_sem] theorem QfR (x y : UInt32) (hy : ¬ ((y).toNat : Int) = 0) : binOp .rem T (W32 x) (W32 y) = pure (W32 (x % y)) := by
  show binOp .rem T (.int .u32 x.toNat) (.int .u32 y.toNat) = _
  rw [binOp_rem]
  simp only [Op.intDiv]
  rw [if_neg hy, Qa6 (x := x % y)]
  rw [UInt32.toNat_mod, Int.tmod_eq_emod_of_nonneg (by omega), ← Int.natCast_emod]
@[go_sem] theorem QeP (x : UInt32) (n : Int) (h0 : 0 ≤ n) (h1 : n < 4294967296) (hy : ¬ ((QmM n.toNat).toNat : Int) = 0) : binOp .rem T (W32 x) (.int .u32 n) = pure (W32 (x % (QmM n.toNat))) := by
  rw [Qar n h0 h1]
  exact QfR T x _ hy
@[go_sem] theorem Qlm (y : UInt32) (n : Int) (h0 : 0 ≤ n) (h1 : n < 4294967296) (hy : ¬ ((y).toNat : Int) = 0) : binOp .rem T (.int .u32 n) (W32 y) = pure (W32 (QmM n.toNat % y)) := by
  rw [Qar n h0 h1]
  exact QfR T _ y hy
theorem QeY (x : UInt32) (yk : IntKind) (n : Int) (h0 : 0 ≤ n) : binOp .shl T (W32 x) (.int yk n) = pure (W32 (Qdt x n.toNat)) := by
 show binOp .shl T (.int .u32 x.toNat) (.int yk n) = _
 rw [binOp_shl]
 simp only [Op.shift]
 rw [if_neg (by omega), Qa6 (x := Qdt x n.toNat)]
 have e : (Qdt x n.toNat).toNat = (x.toNat * 2 ^ n.toNat) % 4294967296 := by
  show (x.toBitVec <<< n.toNat).toNat = _
  rw [BitVec.toNat_shiftLeft, Qnu]
  rfl
 rw [QaP, e]
 have hb : IntKind.bits .u32 = 32 := rfl
 rw [hb]
 rcases Nat.le_total n.toNat 32 with h | h
 · rw [Qnw h]
   have : ((2 : Int) ^ n.toNat) = ((2 ^ n.toNat : Nat) : Int) := by simp
   rw [this, ← Qnq]
   omega
 · rw [Nat.min_eq_right h]
   obtain ⟨d, hd⟩ := Nat.exists_eq_add_of_le h
   have e1 : x.toNat * 2 ^ n.toNat = 4294967296 * (x.toNat * 2 ^ d) := by rw [hd, Nat.pow_add]; show x.toNat * (4294967296 * 2 ^ d) = _; rw [Nat.mul_left_comm]
   rw [e1, Nat.mul_mod_right]
   omega
@[go_sem] theorem Qml (x : UInt32) (yk : IntKind) (n : Int) : binOp .shl T (W32 x) (.int yk n) = if n < 0 then runtimePanic (.error "negative shift amount") else pure (W32 (Qdt x n.toNat)) := by
  by_cases h : n < 0
  · rw [if_pos h]
    show binOp .shl T (.int .u32 x.toNat) (.int yk n) = _
    rw [binOp_shl]
    simp only [Op.shift]
    rw [if_pos h]
  · rw [if_neg h]
    exact QeY T x yk n (by omega)
theorem Qdh (x : UInt32) (yk : IntKind) (n : Int) (h0 : 0 ≤ n) : binOp .shr T (W32 x) (.int yk n) = pure (W32 (Qcb x n.toNat)) := by
 show binOp .shr T (.int .u32 x.toNat) (.int yk n) = _
 rw [binOp_shr]
 simp only [Op.shift]
 rw [if_neg (by omega), Qa6 (x := Qcb x n.toNat)]
 have e : (Qcb x n.toNat).toNat = x.toNat / 2 ^ n.toNat := by
  show (x.toBitVec >>> n.toNat).toNat = _
  rw [Qng, Qne]
  rfl
 rw [e]
 have hb : IntKind.bits .u32 = 32 := rfl
 rw [hb]
 have hx := x.toNat_lt
 have ep : ∀ m : Nat, ((2 : Int) ^ m) = ((2 ^ m : Nat) : Int) := fun m => by simp
 rw [ep, Int.fdiv_eq_ediv_of_nonneg _ (Int.natCast_nonneg _), ← Int.natCast_ediv]
 rcases Nat.le_total n.toNat 32 with h | h
 · rw [Qnw h]
 · rw [Nat.min_eq_right h]
   have h1 : x.toNat / 2 ^ 32 = 0 := Nat.div_eq_of_lt (by simpa using hx)
   have h2 : x.toNat / 2 ^ n.toNat = 0 := Nat.div_eq_of_lt (QmL (by simpa using hx) (Nat.pow_le_pow_right (by omega) h))
   rw [h1, h2]
@[go_sem] theorem Qlr (x : UInt32) (yk : IntKind) (n : Int) : binOp .shr T (W32 x) (.int yk n) = if n < 0 then runtimePanic (.error "negative shift amount") else pure (W32 (Qcb x n.toNat)) := by
  by_cases h : n < 0
  · rw [if_pos h]
    show binOp .shr T (.int .u32 x.toNat) (.int yk n) = _
    rw [binOp_shr]
    simp only [Op.shift]
    rw [if_pos h]
  · rw [if_neg h]
    exact Qdh T x yk n (by omega)
@[go_sem] theorem Qk1 (x : UInt32) (n : UInt64) : binOp .shl T (W32 x) (W64 n) = pure (W32 (Qdt x (cnt n))) := QeY T x .u64 n.toNat (by omega)
@[go_sem] theorem QkV (x : UInt32) (n : UInt64) : binOp .shr T (W32 x) (W64 n) = pure (W32 (Qcb x (cnt n))) := Qdh T x .u64 n.toNat (by omega)
@[go_sem] theorem Qhz (x : UInt32) : Op.unary .xor (W32 x) = pure (W32 (~~~x)) := by
  have h : binOp .xor 0 (.int .u32 (4294967295 : Int)) (W32 x) = pure (W32 (~~~x)) := by
   rw [Qhj 0 x 4294967295 (by omega) (by omega)]
   congr 2
  exact h
end
def QdK (x : UInt64) (n : Nat) : UInt64 := ⟨x.toBitVec <<< n⟩
def QcC (x : UInt64) (n : Nat) : UInt64 := ⟨x.toBitVec >>> n⟩
theorem Qa8 {x : UInt64} {n : Int} (h : (x.toNat : Int) = n) : Value.int .u64 n = W64 x := by rw [W64, h]
section
variable (T : TypeId) (ox oy : Operand)
@[go_sem] theorem QiP (op : BinOp) (x y : UInt64) : eqGuard op T ox oy (W64 x) (W64 y) = pure () := Qap ..
@[go_sem] theorem Qh6 (op : BinOp) (x : UInt64) (k : IntKind) (y : Int) : eqGuard op T ox oy (W64 x) (.int k y) = pure () := Qap ..
@[go_sem] theorem Qh0 (op : BinOp) (x : UInt64) (k : IntKind) (y : Int) : eqGuard op T ox oy (.int k y) (W64 x) = pure () := Qap ..
theorem Qat (n : Int) (h0 : 0 ≤ n) (h1 : n < 18446744073709551616) : Value.int .u64 n = W64 (QmB n.toNat) := by
 apply Qa8
 rw [QmF]
 omega
theorem Qgh (n : Int) : (UInt64.ofInt n).toNat = (n % 18446744073709551616).toNat := by
 simp [UInt64.ofInt, QmF]
 try omega
theorem QhF (n : Int) : Value.int .u64 (IntKind.wrap .u64 n) = W64 (UInt64.ofInt n) := by
 apply Qa8
 rw [QaQ]
 have := Qgh n
 omega
@[go_sem] theorem Qeh (x y : UInt64) : binOp .add T (W64 x) (W64 y) = pure (W64 (x + y)) := by
  show binOp .add T (.int .u64 x.toNat) (.int .u64 y.toNat) = _
  rw [binOp_add]
  simp only [Op.intArith]
  rw [Qa8 (x := x + y)]
  rw [QaQ, UInt64.toNat_add]
  omega
@[go_sem] theorem Qkv (x : UInt64) (n : Int) (h0 : 0 ≤ n) (h1 : n < 18446744073709551616) : binOp .add T (W64 x) (.int .u64 n) = pure (W64 (x + QmB n.toNat)) := by
  rw [Qat n h0 h1]
  exact Qeh T x _
@[go_sem] theorem Qk3 (y : UInt64) (n : Int) (h0 : 0 ≤ n) (h1 : n < 18446744073709551616) : binOp .add T (.int .u64 n) (W64 y) = pure (W64 (QmB n.toNat + y)) := by
  rw [Qat n h0 h1]
  exact Qeh T _ y
@[go_sem] theorem Qes (x y : UInt64) : binOp .sub T (W64 x) (W64 y) = pure (W64 (x - y)) := by
  show binOp .sub T (.int .u64 x.toNat) (.int .u64 y.toNat) = _
  rw [binOp_sub]
  simp only [Op.intArith]
  rw [Qa8 (x := x - y)]
  rw [QaQ, UInt64.toNat_sub]
  have := y.toNat_lt
  omega
@[go_sem] theorem QkZ (x : UInt64) (n : Int) (h0 : 0 ≤ n) (h1 : n < 18446744073709551616) : binOp .sub T (W64 x) (.int .u64 n) = pure (W64 (x - QmB n.toNat)) := by
  rw [Qat n h0 h1]
  exact Qes T x _
@[go_sem] theorem QkD (y : UInt64) (n : Int) (h0 : 0 ≤ n) (h1 : n < 18446744073709551616) : binOp .sub T (.int .u64 n) (W64 y) = pure (W64 (QmB n.toNat - y)) := by
  rw [Qat n h0 h1]
  exact Qes T _ y
@[go_sem] theorem Qej (x y : UInt64) : binOp .mul T (W64 x) (W64 y) = pure (W64 (x * y)) := by
  show binOp .mul T (.int .u64 x.toNat) (.int .u64 y.toNat) = _
  rw [binOp_mul]
  simp only [Op.intArith]
  rw [Qa8 (x := x * y)]
  rw [QaQ, UInt64.toNat_mul, ← Qnq]
  omega
@[go_sem] theorem Qlg (x : UInt64) (n : Int) (h0 : 0 ≤ n) (h1 : n < 18446744073709551616) : binOp .mul T (W64 x) (.int .u64 n) = pure (W64 (x * QmB n.toNat)) := by
  rw [Qat n h0 h1]
  exact Qej T x _
@[go_sem] theorem Qks (y : UInt64) (n : Int) (h0 : 0 ≤ n) (h1 : n < 18446744073709551616) : binOp .mul T (.int .u64 n) (W64 y) = pure (W64 (QmB n.toNat * y)) := by
  rw [Qat n h0 h1]
  exact Qej T _ y
@[go_sem] theorem QfU (x y : UInt64) : binOp .and T (W64 x) (W64 y) = pure (W64 (x &&& y)) := by
  show binOp .and T (.int .u64 x.toNat) (.int .u64 y.toNat) = _
  rw [binOp_and]
  simp only [Op.intBits]
  rw [Qa8 (x := x &&& y)]
  have e1 : Qm2 (IntKind.bits .u64) (x.toNat : Int) = x.toBitVec := Qao x.toBitVec
  have e2 : Qm2 (IntKind.bits .u64) (y.toNat : Int) = y.toBitVec := Qao y.toBitVec
  rw [e1, e2, QaQ]
  exact (QcF (x &&& y)).symm
@[go_sem] theorem Qdl (x : UInt64) (n : Int) (h0 : 0 ≤ n) (h1 : n < 18446744073709551616) : binOp .and T (W64 x) (.int .u64 n) = pure (W64 (x &&& QmB n.toNat)) := by
  rw [Qat n h0 h1]
  exact QfU T x _
@[go_sem] theorem Qli (y : UInt64) (n : Int) (h0 : 0 ≤ n) (h1 : n < 18446744073709551616) : binOp .and T (.int .u64 n) (W64 y) = pure (W64 (QmB n.toNat &&& y)) := by
  rw [Qat n h0 h1]
  exact QfU T _ y
@[go_sem] theorem Qf7 (x y : UInt64) : binOp .or T (W64 x) (W64 y) = pure (W64 (x ||| y)) := by
  show binOp .or T (.int .u64 x.toNat) (.int .u64 y.toNat) = _
  rw [binOp_or]
  simp only [Op.intBits]
  rw [Qa8 (x := x ||| y)]
  have e1 : Qm2 (IntKind.bits .u64) (x.toNat : Int) = x.toBitVec := Qao x.toBitVec
  have e2 : Qm2 (IntKind.bits .u64) (y.toNat : Int) = y.toBitVec := Qao y.toBitVec
  rw [e1, e2, QaQ]
  exact (QcF (x ||| y)).symm
@[go_sem] theorem Qmm (x : UInt64) (n : Int) (h0 : 0 ≤ n) (h1 : n < 18446744073709551616) : binOp .or T (W64 x) (.int .u64 n) = pure (W64 (x ||| QmB n.toNat)) := by
  rw [Qat n h0 h1]
  exact Qf7 T x _
@[go_sem] theorem QlC (y : UInt64) (n : Int) (h0 : 0 ≤ n) (h1 : n < 18446744073709551616) : binOp .or T (.int .u64 n) (W64 y) = pure (W64 (QmB n.toNat ||| y)) := by
  rw [Qat n h0 h1]
  exact Qf7 T _ y
@[go_sem] theorem QgA (x y : UInt64) : binOp .xor T (W64 x) (W64 y) = pure (W64 (x ^^^ y)) := by
  show binOp .xor T (.int .u64 x.toNat) (.int .u64 y.toNat) = _
  rw [binOp_xor]
  simp only [Op.intBits]
  rw [Qa8 (x := x ^^^ y)]
  have e1 : Qm2 (IntKind.bits .u64) (x.toNat : Int) = x.toBitVec := Qao x.toBitVec
  have e2 : Qm2 (IntKind.bits .u64) (y.toNat : Int) = y.toBitVec := Qao y.toBitVec
  rw [e1, e2, QaQ]
  exact (QcF (x ^^^ y)).symm
@[go_sem] theorem Qku (x : UInt64) (n : Int) (h0 : 0 ≤ n) (h1 : n < 18446744073709551616) : binOp .xor T (W64 x) (.int .u64 n) = pure (W64 (x ^^^ QmB n.toNat)) := by
  rw [Qat n h0 h1]
  exact QgA T x _
@[go_sem] theorem Qg7 (y : UInt64) (n : Int) (h0 : 0 ≤ n) (h1 : n < 18446744073709551616) : binOp .xor T (.int .u64 n) (W64 y) = pure (W64 (QmB n.toNat ^^^ y)) := by
  rw [Qat n h0 h1]
  exact QgA T _ y
@[go_sem] theorem Qec (x y : UInt64) : binOp .eql T (W64 x) (W64 y) = pure (.bool (x == y)) := by
  show binOp .eql T (.int .u64 x.toNat) (.int .u64 y.toNat) = _
  rw [binOp_eql]
  have : ((x.toNat : Int) == (y.toNat : Int)) = (x == y) := by
   rw [QmY, beq_iff_eq, beq_iff_eq, ← Qnn]
   omega
  simp only [this]
@[go_sem] theorem Qk9 (x : UInt64) (n : Int) (h0 : 0 ≤ n) (h1 : n < 18446744073709551616) : binOp .eql T (W64 x) (.int .u64 n) = pure (.bool (x == (QmB n.toNat))) := by
  rw [Qat n h0 h1]
  exact Qec T x _
@[go_sem] theorem QkQ (y : UInt64) (n : Int) (h0 : 0 ≤ n) (h1 : n < 18446744073709551616) : binOp .eql T (.int .u64 n) (W64 y) = pure (.bool ((QmB n.toNat) == y)) := by
  rw [Qat n h0 h1]
  exact Qec T _ y
@[go_sem] theorem QfV (x y : UInt64) : binOp .neq T (W64 x) (W64 y) = pure (.bool (x != y)) := by
  show binOp .neq T (.int .u64 x.toNat) (.int .u64 y.toNat) = _
  rw [binOp_neq]
  have : ((x.toNat : Int) == (y.toNat : Int)) = (x == y) := by
   rw [QmY, beq_iff_eq, beq_iff_eq, ← Qnn]
   omega
  simp only [bne, this]
@[go_sem] theorem Qle (x : UInt64) (n : Int) (h0 : 0 ≤ n) (h1 : n < 18446744073709551616) : binOp .neq T (W64 x) (.int .u64 n) = pure (.bool (x != (QmB n.toNat))) := by
  rw [Qat n h0 h1]
  exact QfV T x _
@[go_sem] theorem Qkz (y : UInt64) (n : Int) (h0 : 0 ≤ n) (h1 : n < 18446744073709551616) : binOp .neq T (.int .u64 n) (W64 y) = pure (.bool ((QmB n.toNat) != y)) := by
  rw [Qat n h0 h1]
  exact QfV T _ y
@[go_sem] theorem Qd7 (x y : UInt64) : binOp .lss T (W64 x) (W64 y) = pure (.bool (decide (x < y))) := by
  show binOp .lss T (.int .u64 x.toNat) (.int .u64 y.toNat) = _
  rw [binOp_lss]
  congr 2
  rw [decide_eq_decide, UInt64.lt_iff_toNat_lt]
  omega
@[go_sem] theorem Qk2 (x : UInt64) (n : Int) (h0 : 0 ≤ n) (h1 : n < 18446744073709551616) : binOp .lss T (W64 x) (.int .u64 n) = pure (.bool (decide (x < (QmB n.toNat)))) := by
  rw [Qat n h0 h1]
  exact Qd7 T x _
@[go_sem] theorem Qkx (y : UInt64) (n : Int) (h0 : 0 ≤ n) (h1 : n < 18446744073709551616) : binOp .lss T (.int .u64 n) (W64 y) = pure (.bool (decide ((QmB n.toNat) < y))) := by
  rw [Qat n h0 h1]
  exact Qd7 T _ y
@[go_sem] theorem QgL (x y : UInt64) : binOp .leq T (W64 x) (W64 y) = pure (.bool (decide (x ≤ y))) := by
  show binOp .leq T (.int .u64 x.toNat) (.int .u64 y.toNat) = _
  rw [binOp_leq]
  congr 2
  rw [decide_eq_decide, UInt64.le_iff_toNat_le]
  omega
@[go_sem] theorem Qk4 (x : UInt64) (n : Int) (h0 : 0 ≤ n) (h1 : n < 18446744073709551616) : binOp .leq T (W64 x) (.int .u64 n) = pure (.bool (decide (x ≤ (QmB n.toNat)))) := by
  rw [Qat n h0 h1]
  exact QgL T x _
@[go_sem] theorem QkT (y : UInt64) (n : Int) (h0 : 0 ≤ n) (h1 : n < 18446744073709551616) : binOp .leq T (.int .u64 n) (W64 y) = pure (.bool (decide ((QmB n.toNat) ≤ y))) := by
  rw [Qat n h0 h1]
  exact QgL T _ y
@[go_sem] theorem Qd8 (x y : UInt64) : binOp .gtr T (W64 x) (W64 y) = pure (.bool (decide (y < x))) := by
  show binOp .gtr T (.int .u64 x.toNat) (.int .u64 y.toNat) = _
  rw [binOp_gtr]
  congr 2
  rw [decide_eq_decide, UInt64.lt_iff_toNat_lt]
  omega
@[go_sem] theorem Qk0 (x : UInt64) (n : Int) (h0 : 0 ≤ n) (h1 : n < 18446744073709551616) : binOp .gtr T (W64 x) (.int .u64 n) = pure (.bool (decide ((QmB n.toNat) < x))) := by
  rw [Qat n h0 h1]
  exact Qd8 T x _
@[go_sem] theorem Qlk (y : UInt64) (n : Int) (h0 : 0 ≤ n) (h1 : n < 18446744073709551616) : binOp .gtr T (.int .u64 n) (W64 y) = pure (.bool (decide (y < (QmB n.toNat)))) := by
  rw [Qat n h0 h1]
  exact Qd8 T _ y
@[go_sem] theorem QfJ (x y : UInt64) : binOp .geq T (W64 x) (W64 y) = pure (.bool (decide (y ≤ x))) := by
  show binOp .geq T (.int .u64 x.toNat) (.int .u64 y.toNat) = _
  rw [binOp_geq]
  congr 2
  rw [decide_eq_decide, UInt64.le_iff_toNat_le]
  omega
@[go_sem] theorem QkG (x : UInt64) (n : Int) (h0 : 0 ≤ n) (h1 : n < 18446744073709551616) : binOp .geq T (W64 x) (.int .u64 n) = pure (.bool (decide ((QmB n.toNat) ≤ x))) := by
  rw [Qat n h0 h1]
  exact QfJ T x _
@[go_sem] theorem Qll (y : UInt64) (n : Int) (h0 : 0 ≤ n) (h1 : n < 18446744073709551616) : binOp .geq T (.int .u64 n) (W64 y) = pure (.bool (decide (y ≤ (QmB n.toNat)))) := by
  rw [Qat n h0 h1]
  exact QfJ T _ y
@[go_sem] theorem QgD (x y : UInt64) (hy : ¬ ((y).toNat : Int) = 0) : binOp .quo T (W64 x) (W64 y) = pure (W64 (x / y)) := by
  show binOp .quo T (.int .u64 x.toNat) (.int .u64 y.toNat) = _
  rw [binOp_quo]
  simp only [Op.intDiv]
  rw [if_neg hy, Qa8 (x := x / y)]
  rw [QaQ, UInt64.toNat_div, Int.tdiv_eq_ediv_of_nonneg (by omega), ← Int.natCast_ediv]
  have h1 := Nat.div_le_self x.toNat y.toNat
  have h2 := x.toNat_lt
  generalize x.toNat / y.toNat = q at *
  omega
@[go_sem] theorem Qld (x : UInt64) (n : Int) (h0 : 0 ≤ n) (h1 : n < 18446744073709551616) (hy : ¬ ((QmB n.toNat).toNat : Int) = 0) : binOp .quo T (W64 x) (.int .u64 n) = pure (W64 (x / (QmB n.toNat))) := by
  rw [Qat n h0 h1]
  exact QgD T x _ hy
@[go_sem] theorem Qlh (y : UInt64) (n : Int) (h0 : 0 ≤ n) (h1 : n < 18446744073709551616) (hy : ¬ ((y).toNat : Int) = 0) : binOp .quo T (.int .u64 n) (W64 y) = pure (W64 (QmB n.toNat / y)) := by
  rw [Qat n h0 h1]
  exact QgD T _ y hy
@[go_sem] theorem Qf5 (x y : UInt64) (hy : ¬ ((y).toNat : Int) = 0) : binOp .rem T (W64 x) (W64 y) = pure (W64 (x % y)) := by
  show binOp .rem T (.int .u64 x.toNat) (.int .u64 y.toNat) = _
  rw [binOp_rem]
  simp only [Op.intDiv]
  rw [if_neg hy, Qa8 (x := x % y)]
  rw [UInt64.toNat_mod, Int.tmod_eq_emod_of_nonneg (by omega), ← Int.natCast_emod]
@[go_sem] theorem QhC (x : UInt64) (n : Int) (h0 : 0 ≤ n) (h1 : n < 18446744073709551616) (hy : ¬ ((QmB n.toNat).toNat : Int) = 0) : binOp .rem T (W64 x) (.int .u64 n) = pure (W64 (x % (QmB n.toNat))) := by
  rw [Qat n h0 h1]
  exact Qf5 T x _ hy
@[go_sem] theorem QkW (y : UInt64) (n : Int) (h0 : 0 ≤ n) (h1 : n < 18446744073709551616) (hy : ¬ ((y).toNat : Int) = 0) : binOp .rem T (.int .u64 n) (W64 y) = pure (W64 (QmB n.toNat % y)) := by
  rw [Qat n h0 h1]
  exact Qf5 T _ y hy
theorem Qdj (x : UInt64) (yk : IntKind) (n : Int) (h0 : 0 ≤ n) : binOp .shl T (W64 x) (.int yk n) = pure (W64 (QdK x n.toNat)) := by
 show binOp .shl T (.int .u64 x.toNat) (.int yk n) = _
 rw [binOp_shl]
 simp only [Op.shift]
 rw [if_neg (by omega), Qa8 (x := QdK x n.toNat)]
 have e : (QdK x n.toNat).toNat = (x.toNat * 2 ^ n.toNat) % 18446744073709551616 := by
  show (x.toBitVec <<< n.toNat).toNat = _
  rw [BitVec.toNat_shiftLeft, Qnu]
  rfl
 rw [QaQ, e]
 have hb : IntKind.bits .u64 = 64 := rfl
 rw [hb]
 rcases Nat.le_total n.toNat 64 with h | h
 · rw [Qnw h]
   have : ((2 : Int) ^ n.toNat) = ((2 ^ n.toNat : Nat) : Int) := by simp
   rw [this, ← Qnq]
   omega
 · rw [Nat.min_eq_right h]
   obtain ⟨d, hd⟩ := Nat.exists_eq_add_of_le h
   have e1 : x.toNat * 2 ^ n.toNat = 18446744073709551616 * (x.toNat * 2 ^ d) := by rw [hd, Nat.pow_add]; show x.toNat * (18446744073709551616 * 2 ^ d) = _; rw [Nat.mul_left_comm]
   rw [e1, Nat.mul_mod_right]
   omega
@[go_sem] theorem Ql9 (x : UInt64) (yk : IntKind) (n : Int) : binOp .shl T (W64 x) (.int yk n) = if n < 0 then runtimePanic (.error "negative shift amount") else pure (W64 (QdK x n.toNat)) := by
  by_cases h : n < 0
  · rw [if_pos h]
    show binOp .shl T (.int .u64 x.toNat) (.int yk n) = _
    rw [binOp_shl]
    simp only [Op.shift]
    rw [if_pos h]
  · rw [if_neg h]
    exact Qdj T x yk n (by omega)
theorem Qdw (x : UInt64) (yk : IntKind) (n : Int) (h0 : 0 ≤ n) : binOp .shr T (W64 x) (.int yk n) = pure (W64 (QcC x n.toNat)) := by
 show binOp .shr T (.int .u64 x.toNat) (.int yk n) = _
 rw [binOp_shr]
 simp only [Op.shift]
 rw [if_neg (by omega), Qa8 (x := QcC x n.toNat)]
 have e : (QcC x n.toNat).toNat = x.toNat / 2 ^ n.toNat := by
  show (x.toBitVec >>> n.toNat).toNat = _
  rw [Qng, Qne]
  rfl
 rw [e]
 have hb : IntKind.bits .u64 = 64 := rfl
 rw [hb]
 have hx := x.toNat_lt
 have ep : ∀ m : Nat, ((2 : Int) ^ m) = ((2 ^ m : Nat) : Int) := fun m => by simp
 rw [ep, Int.fdiv_eq_ediv_of_nonneg _ (Int.natCast_nonneg _), ← Int.natCast_ediv]
 rcases Nat.le_total n.toNat 64 with h | h
 · rw [Qnw h]
 · rw [Nat.min_eq_right h]
   have h1 : x.toNat / 2 ^ 64 = 0 := Nat.div_eq_of_lt (by simpa using hx)
   have h2 : x.toNat / 2 ^ n.toNat = 0 := Nat.div_eq_of_lt (QmL (by simpa using hx) (Nat.pow_le_pow_right (by omega) h))
   rw [h1, h2]
@[go_sem] theorem Ql3 (x : UInt64) (yk : IntKind) (n : Int) : binOp .shr T (W64 x) (.int yk n) = if n < 0 then runtimePanic (.error "negative shift amount") else pure (W64 (QcC x n.toNat)) := by
  by_cases h : n < 0
  · rw [if_pos h]
    show binOp .shr T (.int .u64 x.toNat) (.int yk n) = _
    rw [binOp_shr]
    simp only [Op.shift]
    rw [if_pos h]
  · rw [if_neg h]
    exact Qdw T x yk n (by omega)
@[go_sem] theorem QkB (x : UInt64) (n : UInt64) : binOp .shl T (W64 x) (W64 n) = pure (W64 (QdK x (cnt n))) := Qdj T x .u64 n.toNat (by omega)
@[go_sem] theorem Qkw (x : UInt64) (n : UInt64) : binOp .shr T (W64 x) (W64 n) = pure (W64 (QcC x (cnt n))) := Qdw T x .u64 n.toNat (by omega)
@[go_sem] theorem Qhd (x : UInt64) : Op.unary .xor (W64 x) = pure (W64 (~~~x)) := by
  have h : binOp .xor 0 (.int .u64 (18446744073709551615 : Int)) (W64 x) = pure (W64 (~~~x)) := by
   rw [Qg7 0 x 18446744073709551615 (by omega) (by omega)]
   congr 2
  exact h
end
section
variable {P : Program} (w : World) (S D : TypeId)
@[go_sem] theorem Qfr (x : UInt8) (hs : (P.underlying S).isSome = true) (hd : P.underlying D = some (.int .u8)) : (convert S D (W8 x)).run P w = .ok (W8 x) w := by
  have h := run_convert_int (P := P) (w := w) S D .u8 x.toNat hs (by unfold Program.intKind; rw [hd])
  have e : P.intKind D = .u8 := by unfold Program.intKind; rw [hd]
  rw [e] at h
  refine h.trans ?_
  rw [QbN (x := x)]
  rw [Qa2]
  have := x.toNat_lt
  skip
  omega
@[go_sem] theorem QeX (x : UInt8) (hs : (P.underlying S).isSome = true) (hd : P.underlying D = some (.int .u32)) : (convert S D (W8 x)).run P w = .ok (W32 x.toUInt32) w := by
  have h := run_convert_int (P := P) (w := w) S D .u8 x.toNat hs (by unfold Program.intKind; rw [hd])
  have e : P.intKind D = .u32 := by unfold Program.intKind; rw [hd]
  rw [e] at h
  refine h.trans ?_
  rw [Qa6 (x := x.toUInt32)]
  rw [QaP]
  have := x.toNat_lt
  rw [UInt8.toNat_toUInt32]
  omega
@[go_sem] theorem QeR (x : UInt8) (hs : (P.underlying S).isSome = true) (hd : P.underlying D = some (.int .u64)) : (convert S D (W8 x)).run P w = .ok (W64 x.toUInt64) w := by
  have h := run_convert_int (P := P) (w := w) S D .u8 x.toNat hs (by unfold Program.intKind; rw [hd])
  have e : P.intKind D = .u64 := by unfold Program.intKind; rw [hd]
  rw [e] at h
  refine h.trans ?_
  rw [Qa8 (x := x.toUInt64)]
  rw [QaQ]
  have := x.toNat_lt
  rw [UInt8.toNat_toUInt64]
  omega
@[go_sem] theorem Qe8 (x : UInt8) (hs : (P.underlying S).isSome = true) (hd : P.underlying D = some (.int .i64)) : (convert S D (W8 x)).run P w = .ok (.int .i64 (IntKind.i64.wrap x.toNat)) w := by
  have h := run_convert_int (P := P) (w := w) S D .u8 x.toNat hs (by unfold Program.intKind; rw [hd])
  have e : P.intKind D = .i64 := by unfold Program.intKind; rw [hd]
  rw [e] at h
  exact h
@[go_sem] theorem QbT (x : UInt32) (hs : (P.underlying S).isSome = true) (hd : P.underlying D = some (.int .u8)) : (convert S D (W32 x)).run P w = .ok (W8 x.toUInt8) w := by
  have h := run_convert_int (P := P) (w := w) S D .u32 x.toNat hs (by unfold Program.intKind; rw [hd])
  have e : P.intKind D = .u8 := by unfold Program.intKind; rw [hd]
  rw [e] at h
  refine h.trans ?_
  rw [QbN (x := x.toUInt8)]
  rw [Qa2]
  skip
  rw [UInt32.toNat_toUInt8]
  omega
@[go_sem] theorem Qer (x : UInt32) (hs : (P.underlying S).isSome = true) (hd : P.underlying D = some (.int .u32)) : (convert S D (W32 x)).run P w = .ok (W32 x) w := by
  have h := run_convert_int (P := P) (w := w) S D .u32 x.toNat hs (by unfold Program.intKind; rw [hd])
  have e : P.intKind D = .u32 := by unfold Program.intKind; rw [hd]
  rw [e] at h
  refine h.trans ?_
  rw [Qa6 (x := x)]
  rw [QaP]
  have := x.toNat_lt
  skip
  omega
@[go_sem] theorem QbK (x : UInt32) (hs : (P.underlying S).isSome = true) (hd : P.underlying D = some (.int .u64)) : (convert S D (W32 x)).run P w = .ok (W64 x.toUInt64) w := by
  have h := run_convert_int (P := P) (w := w) S D .u32 x.toNat hs (by unfold Program.intKind; rw [hd])
  have e : P.intKind D = .u64 := by unfold Program.intKind; rw [hd]
  rw [e] at h
  refine h.trans ?_
  rw [Qa8 (x := x.toUInt64)]
  rw [QaQ]
  have := x.toNat_lt
  rw [UInt32.toNat_toUInt64]
  omega
@[go_sem] theorem Qei (x : UInt32) (hs : (P.underlying S).isSome = true) (hd : P.underlying D = some (.int .i64)) : (convert S D (W32 x)).run P w = .ok (.int .i64 (IntKind.i64.wrap x.toNat)) w := by
  have h := run_convert_int (P := P) (w := w) S D .u32 x.toNat hs (by unfold Program.intKind; rw [hd])
  have e : P.intKind D = .i64 := by unfold Program.intKind; rw [hd]
  rw [e] at h
  exact h
@[go_sem] theorem QbR (x : UInt64) (hs : (P.underlying S).isSome = true) (hd : P.underlying D = some (.int .u8)) : (convert S D (W64 x)).run P w = .ok (W8 x.toUInt8) w := by
  have h := run_convert_int (P := P) (w := w) S D .u64 x.toNat hs (by unfold Program.intKind; rw [hd])
  have e : P.intKind D = .u8 := by unfold Program.intKind; rw [hd]
  rw [e] at h
  refine h.trans ?_
  rw [QbN (x := x.toUInt8)]
  rw [Qa2]
  skip
  rw [UInt64.toNat_toUInt8]
  omega
@[go_sem] theorem QbM (x : UInt64) (hs : (P.underlying S).isSome = true) (hd : P.underlying D = some (.int .u32)) : (convert S D (W64 x)).run P w = .ok (W32 x.toUInt32) w := by
  have h := run_convert_int (P := P) (w := w) S D .u64 x.toNat hs (by unfold Program.intKind; rw [hd])
  have e : P.intKind D = .u32 := by unfold Program.intKind; rw [hd]
  rw [e] at h
  refine h.trans ?_
  rw [Qa6 (x := x.toUInt32)]
  rw [QaP]
  skip
  rw [UInt64.toNat_toUInt32]
  omega
@[go_sem] theorem Qeo (x : UInt64) (hs : (P.underlying S).isSome = true) (hd : P.underlying D = some (.int .u64)) : (convert S D (W64 x)).run P w = .ok (W64 x) w := by
  have h := run_convert_int (P := P) (w := w) S D .u64 x.toNat hs (by unfold Program.intKind; rw [hd])
  have e : P.intKind D = .u64 := by unfold Program.intKind; rw [hd]
  rw [e] at h
  refine h.trans ?_
  rw [Qa8 (x := x)]
  rw [QaQ]
  have := x.toNat_lt
  skip
  omega
@[go_sem] theorem Qek (x : UInt64) (hs : (P.underlying S).isSome = true) (hd : P.underlying D = some (.int .i64)) : (convert S D (W64 x)).run P w = .ok (.int .i64 (IntKind.i64.wrap x.toNat)) w := by
  have h := run_convert_int (P := P) (w := w) S D .u64 x.toNat hs (by unfold Program.intKind; rw [hd])
  have e : P.intKind D = .i64 := by unfold Program.intKind; rw [hd]
  rw [e] at h
  exact h
end
@[go_sem] theorem Qh3 (P : Program) (w : World) (a : Addr) (m : Mode) (x : UInt8) : (store a (W8 x) m).run P w = stored P w a (W8 x) m := run_store P w a _ m rfl
@[go_sem ↓] theorem QkF (x : UInt8) : (W8 x).cells = #[W8 x] := rfl
@[go_sem] theorem Qhm (P : Program) (w : World) (a : Addr) (m : Mode) (x : UInt32) : (store a (W32 x) m).run P w = stored P w a (W32 x) m := run_store P w a _ m rfl
@[go_sem ↓] theorem QjZ (x : UInt32) : (W32 x).cells = #[W32 x] := rfl
@[go_sem] theorem QgY (P : Program) (w : World) (a : Addr) (m : Mode) (x : UInt64) : (store a (W64 x) m).run P w = stored P w a (W64 x) m := run_store P w a _ m rfl
@[go_sem ↓] theorem QjF (x : UInt64) : (W64 x).cells = #[W64 x] := rfl
attribute [go_sem] Qjh Qg6 QhF
end Go.Proofs.YtkibgdigcgakfabGreat
