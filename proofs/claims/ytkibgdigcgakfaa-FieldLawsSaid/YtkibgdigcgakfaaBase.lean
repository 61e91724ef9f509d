/-
  Words of 8, 32 and 64 bits as values, and what the operations do with them. (Printed by wip/tools/genbase.py.)
-/
import Derived.Test.YtkibgdigcgakfaaCanon
import Derived.WalkSpells
import Derived.WalkLawsBesides
namespace Go.Proofs.Ytkibgdigcgakfaa
open Go.RowKit

def W8 (x : UInt8) : Value := .int .u8 (x.toNat : Int)
def W32 (x : UInt32) : Value := .int .u32 (x.toNat : Int)
def W64 (x : UInt64) : Value := .int .u64 (x.toNat : Int)

theorem wrap_u8 (n : Int) : IntKind.u8.wrap n = n % 256 := by simp [IntKind.wrap, IntKind.bits, IntKind.signed]
theorem wrap_u32 (n : Int) : IntKind.u32.wrap n = n % 4294967296 := by simp [IntKind.wrap, IntKind.bits, IntKind.signed]
theorem wrap_u64 (n : Int) : IntKind.u64.wrap n = n % 18446744073709551616 := by simp [IntKind.wrap, IntKind.bits, IntKind.signed]
theorem ofInt_self {k : Nat} (x : BitVec k) : BitVec.ofInt k (x.toNat : Int) = x := by
  apply BitVec.eq_of_toNat_eq
  simp
theorem i8_toNat (x : UInt8) : ((x.toNat : Int) % 256) = x.toNat := by have := x.toNat_lt; omega
theorem i32_toNat (x : UInt32) : ((x.toNat : Int) % 4294967296) = x.toNat := by have := x.toNat_lt; omega
theorem i64_toNat (x : UInt64) : ((x.toNat : Int) % 18446744073709551616) = x.toNat := by have := x.toNat_lt; omega
/-- A count of a shift. -/
def cnt (n : UInt64) : Nat := n.toNat
theorem eqGuard_int (T : TypeId) (ox oy : Operand) (op : BinOp) (k k' : IntKind) (x y : Int) : eqGuard op T ox oy (.int k x) (.int k' y) = pure () := by
  cases op <;> rfl


/-! ### 8 bits -/
/-- Shifts by a count that is no word; by the width and more: nothing is left. -/
def shl8 (x : UInt8) (n : Nat) : UInt8 := ⟨x.toBitVec <<< n⟩
def shr8 (x : UInt8) (n : Nat) : UInt8 := ⟨x.toBitVec >>> n⟩
theorem w8_eq {x : UInt8} {n : Int} (h : (x.toNat : Int) = n) : Value.int .u8 n = W8 x := by rw [W8, h]
theorem w8_inj {x y : UInt8} (h : W8 x = W8 y) : x = y := by
  simp only [W8, Value.int.injEq, true_and] at h
  exact UInt8.toNat_inj.1 (by omega)
section
variable (T : TypeId) (ox oy : Operand)
@[go_sem] theorem eqGuard_w8 (op : BinOp) (x y : UInt8) : eqGuard op T ox oy (W8 x) (W8 y) = pure () := eqGuard_int ..
@[go_sem] theorem eqGuard_w8i (op : BinOp) (x : UInt8) (k : IntKind) (y : Int) : eqGuard op T ox oy (W8 x) (.int k y) = pure () := eqGuard_int ..
@[go_sem] theorem eqGuard_iw8 (op : BinOp) (x : UInt8) (k : IntKind) (y : Int) : eqGuard op T ox oy (.int k y) (W8 x) = pure () := eqGuard_int ..
theorem lit_w8 (n : Int) (h0 : 0 ≤ n) (h1 : n < 256) : Value.int .u8 n = W8 (UInt8.ofNat n.toNat) := by
  apply w8_eq
  rw [UInt8.toNat_ofNat']
  omega
theorem ofInt_w8 (n : Int) : (UInt8.ofInt n).toNat = (n % 256).toNat := by
  simp [UInt8.ofInt, UInt8.toNat_ofNat']
  try omega
theorem ofIntNat_w8 (n : Nat) : UInt8.ofInt (n : Int) = UInt8.ofNat n := by
  apply UInt8.toNat_inj.1
  rw [ofInt_w8, UInt8.toNat_ofNat']
  omega
theorem wrap_w8 (n : Int) : Value.int .u8 (IntKind.wrap .u8 n) = W8 (UInt8.ofInt n) := by
  apply w8_eq
  rw [wrap_u8]
  have := ofInt_w8 n
  omega
@[go_sem] theorem add_w8 (x y : UInt8) : binOp .add T (W8 x) (W8 y) = pure (W8 (x + y)) := by
  show binOp .add T (.int .u8 x.toNat) (.int .u8 y.toNat) = _
  rw [binOp_add]
  simp only [Op.intArith]
  rw [w8_eq (x := x + y)]
  rw [wrap_u8, UInt8.toNat_add]
  omega
@[go_sem] theorem add_w8i (x : UInt8) (n : Int) (h0 : 0 ≤ n) (h1 : n < 256) : binOp .add T (W8 x) (.int .u8 n) = pure (W8 (x + UInt8.ofNat n.toNat)) := by
  rw [lit_w8 n h0 h1]
  exact add_w8 T x _
@[go_sem] theorem add_iw8 (y : UInt8) (n : Int) (h0 : 0 ≤ n) (h1 : n < 256) : binOp .add T (.int .u8 n) (W8 y) = pure (W8 (UInt8.ofNat n.toNat + y)) := by
  rw [lit_w8 n h0 h1]
  exact add_w8 T _ y
@[go_sem] theorem sub_w8 (x y : UInt8) : binOp .sub T (W8 x) (W8 y) = pure (W8 (x - y)) := by
  show binOp .sub T (.int .u8 x.toNat) (.int .u8 y.toNat) = _
  rw [binOp_sub]
  simp only [Op.intArith]
  rw [w8_eq (x := x - y)]
  rw [wrap_u8, UInt8.toNat_sub]
  have := y.toNat_lt
  omega
@[go_sem] theorem sub_w8i (x : UInt8) (n : Int) (h0 : 0 ≤ n) (h1 : n < 256) : binOp .sub T (W8 x) (.int .u8 n) = pure (W8 (x - UInt8.ofNat n.toNat)) := by
  rw [lit_w8 n h0 h1]
  exact sub_w8 T x _
@[go_sem] theorem sub_iw8 (y : UInt8) (n : Int) (h0 : 0 ≤ n) (h1 : n < 256) : binOp .sub T (.int .u8 n) (W8 y) = pure (W8 (UInt8.ofNat n.toNat - y)) := by
  rw [lit_w8 n h0 h1]
  exact sub_w8 T _ y
@[go_sem] theorem mul_w8 (x y : UInt8) : binOp .mul T (W8 x) (W8 y) = pure (W8 (x * y)) := by
  show binOp .mul T (.int .u8 x.toNat) (.int .u8 y.toNat) = _
  rw [binOp_mul]
  simp only [Op.intArith]
  rw [w8_eq (x := x * y)]
  rw [wrap_u8, UInt8.toNat_mul, ← Int.natCast_mul]
  omega
@[go_sem] theorem mul_w8i (x : UInt8) (n : Int) (h0 : 0 ≤ n) (h1 : n < 256) : binOp .mul T (W8 x) (.int .u8 n) = pure (W8 (x * UInt8.ofNat n.toNat)) := by
  rw [lit_w8 n h0 h1]
  exact mul_w8 T x _
@[go_sem] theorem mul_iw8 (y : UInt8) (n : Int) (h0 : 0 ≤ n) (h1 : n < 256) : binOp .mul T (.int .u8 n) (W8 y) = pure (W8 (UInt8.ofNat n.toNat * y)) := by
  rw [lit_w8 n h0 h1]
  exact mul_w8 T _ y
@[go_sem] theorem and_w8 (x y : UInt8) : binOp .and T (W8 x) (W8 y) = pure (W8 (x &&& y)) := by
  show binOp .and T (.int .u8 x.toNat) (.int .u8 y.toNat) = _
  rw [binOp_and]
  simp only [Op.intBits]
  rw [w8_eq (x := x &&& y)]
  have e1 : BitVec.ofInt (IntKind.bits .u8) (x.toNat : Int) = x.toBitVec := ofInt_self x.toBitVec
  have e2 : BitVec.ofInt (IntKind.bits .u8) (y.toNat : Int) = y.toBitVec := ofInt_self y.toBitVec
  rw [e1, e2, wrap_u8]
  exact (i8_toNat (x &&& y)).symm
@[go_sem] theorem and_w8i (x : UInt8) (n : Int) (h0 : 0 ≤ n) (h1 : n < 256) : binOp .and T (W8 x) (.int .u8 n) = pure (W8 (x &&& UInt8.ofNat n.toNat)) := by
  rw [lit_w8 n h0 h1]
  exact and_w8 T x _
@[go_sem] theorem and_iw8 (y : UInt8) (n : Int) (h0 : 0 ≤ n) (h1 : n < 256) : binOp .and T (.int .u8 n) (W8 y) = pure (W8 (UInt8.ofNat n.toNat &&& y)) := by
  rw [lit_w8 n h0 h1]
  exact and_w8 T _ y
@[go_sem] theorem or_w8 (x y : UInt8) : binOp .or T (W8 x) (W8 y) = pure (W8 (x ||| y)) := by
  show binOp .or T (.int .u8 x.toNat) (.int .u8 y.toNat) = _
  rw [binOp_or]
  simp only [Op.intBits]
  rw [w8_eq (x := x ||| y)]
  have e1 : BitVec.ofInt (IntKind.bits .u8) (x.toNat : Int) = x.toBitVec := ofInt_self x.toBitVec
  have e2 : BitVec.ofInt (IntKind.bits .u8) (y.toNat : Int) = y.toBitVec := ofInt_self y.toBitVec
  rw [e1, e2, wrap_u8]
  exact (i8_toNat (x ||| y)).symm
@[go_sem] theorem or_w8i (x : UInt8) (n : Int) (h0 : 0 ≤ n) (h1 : n < 256) : binOp .or T (W8 x) (.int .u8 n) = pure (W8 (x ||| UInt8.ofNat n.toNat)) := by
  rw [lit_w8 n h0 h1]
  exact or_w8 T x _
@[go_sem] theorem or_iw8 (y : UInt8) (n : Int) (h0 : 0 ≤ n) (h1 : n < 256) : binOp .or T (.int .u8 n) (W8 y) = pure (W8 (UInt8.ofNat n.toNat ||| y)) := by
  rw [lit_w8 n h0 h1]
  exact or_w8 T _ y
@[go_sem] theorem xor_w8 (x y : UInt8) : binOp .xor T (W8 x) (W8 y) = pure (W8 (x ^^^ y)) := by
  show binOp .xor T (.int .u8 x.toNat) (.int .u8 y.toNat) = _
  rw [binOp_xor]
  simp only [Op.intBits]
  rw [w8_eq (x := x ^^^ y)]
  have e1 : BitVec.ofInt (IntKind.bits .u8) (x.toNat : Int) = x.toBitVec := ofInt_self x.toBitVec
  have e2 : BitVec.ofInt (IntKind.bits .u8) (y.toNat : Int) = y.toBitVec := ofInt_self y.toBitVec
  rw [e1, e2, wrap_u8]
  exact (i8_toNat (x ^^^ y)).symm
@[go_sem] theorem xor_w8i (x : UInt8) (n : Int) (h0 : 0 ≤ n) (h1 : n < 256) : binOp .xor T (W8 x) (.int .u8 n) = pure (W8 (x ^^^ UInt8.ofNat n.toNat)) := by
  rw [lit_w8 n h0 h1]
  exact xor_w8 T x _
@[go_sem] theorem xor_iw8 (y : UInt8) (n : Int) (h0 : 0 ≤ n) (h1 : n < 256) : binOp .xor T (.int .u8 n) (W8 y) = pure (W8 (UInt8.ofNat n.toNat ^^^ y)) := by
  rw [lit_w8 n h0 h1]
  exact xor_w8 T _ y
@[go_sem] theorem eql_w8 (x y : UInt8) : binOp .eql T (W8 x) (W8 y) = pure (.bool (x == y)) := by
  show binOp .eql T (.int .u8 x.toNat) (.int .u8 y.toNat) = _
  rw [binOp_eql]
  have : ((x.toNat : Int) == (y.toNat : Int)) = (x == y) := by
    rw [Bool.eq_iff_iff, beq_iff_eq, beq_iff_eq, ← UInt8.toNat_inj]
    omega
  simp only [this]
@[go_sem] theorem eql_w8i (x : UInt8) (n : Int) (h0 : 0 ≤ n) (h1 : n < 256) : binOp .eql T (W8 x) (.int .u8 n) = pure (.bool (x == (UInt8.ofNat n.toNat))) := by
  rw [lit_w8 n h0 h1]
  exact eql_w8 T x _
@[go_sem] theorem eql_iw8 (y : UInt8) (n : Int) (h0 : 0 ≤ n) (h1 : n < 256) : binOp .eql T (.int .u8 n) (W8 y) = pure (.bool ((UInt8.ofNat n.toNat) == y)) := by
  rw [lit_w8 n h0 h1]
  exact eql_w8 T _ y
@[go_sem] theorem neq_w8 (x y : UInt8) : binOp .neq T (W8 x) (W8 y) = pure (.bool (x != y)) := by
  show binOp .neq T (.int .u8 x.toNat) (.int .u8 y.toNat) = _
  rw [binOp_neq]
  have : ((x.toNat : Int) == (y.toNat : Int)) = (x == y) := by
    rw [Bool.eq_iff_iff, beq_iff_eq, beq_iff_eq, ← UInt8.toNat_inj]
    omega
  simp only [bne, this]
@[go_sem] theorem neq_w8i (x : UInt8) (n : Int) (h0 : 0 ≤ n) (h1 : n < 256) : binOp .neq T (W8 x) (.int .u8 n) = pure (.bool (x != (UInt8.ofNat n.toNat))) := by
  rw [lit_w8 n h0 h1]
  exact neq_w8 T x _
@[go_sem] theorem neq_iw8 (y : UInt8) (n : Int) (h0 : 0 ≤ n) (h1 : n < 256) : binOp .neq T (.int .u8 n) (W8 y) = pure (.bool ((UInt8.ofNat n.toNat) != y)) := by
  rw [lit_w8 n h0 h1]
  exact neq_w8 T _ y
@[go_sem] theorem lss_w8 (x y : UInt8) : binOp .lss T (W8 x) (W8 y) = pure (.bool (decide (x < y))) := by
  show binOp .lss T (.int .u8 x.toNat) (.int .u8 y.toNat) = _
  rw [binOp_lss]
  congr 2
  rw [decide_eq_decide, UInt8.lt_iff_toNat_lt]
  omega
@[go_sem] theorem lss_w8i (x : UInt8) (n : Int) (h0 : 0 ≤ n) (h1 : n < 256) : binOp .lss T (W8 x) (.int .u8 n) = pure (.bool (decide (x < (UInt8.ofNat n.toNat)))) := by
  rw [lit_w8 n h0 h1]
  exact lss_w8 T x _
@[go_sem] theorem lss_iw8 (y : UInt8) (n : Int) (h0 : 0 ≤ n) (h1 : n < 256) : binOp .lss T (.int .u8 n) (W8 y) = pure (.bool (decide ((UInt8.ofNat n.toNat) < y))) := by
  rw [lit_w8 n h0 h1]
  exact lss_w8 T _ y
@[go_sem] theorem leq_w8 (x y : UInt8) : binOp .leq T (W8 x) (W8 y) = pure (.bool (decide (x ≤ y))) := by
  show binOp .leq T (.int .u8 x.toNat) (.int .u8 y.toNat) = _
  rw [binOp_leq]
  congr 2
  rw [decide_eq_decide, UInt8.le_iff_toNat_le]
  omega
@[go_sem] theorem leq_w8i (x : UInt8) (n : Int) (h0 : 0 ≤ n) (h1 : n < 256) : binOp .leq T (W8 x) (.int .u8 n) = pure (.bool (decide (x ≤ (UInt8.ofNat n.toNat)))) := by
  rw [lit_w8 n h0 h1]
  exact leq_w8 T x _
@[go_sem] theorem leq_iw8 (y : UInt8) (n : Int) (h0 : 0 ≤ n) (h1 : n < 256) : binOp .leq T (.int .u8 n) (W8 y) = pure (.bool (decide ((UInt8.ofNat n.toNat) ≤ y))) := by
  rw [lit_w8 n h0 h1]
  exact leq_w8 T _ y
@[go_sem] theorem gtr_w8 (x y : UInt8) : binOp .gtr T (W8 x) (W8 y) = pure (.bool (decide (y < x))) := by
  show binOp .gtr T (.int .u8 x.toNat) (.int .u8 y.toNat) = _
  rw [binOp_gtr]
  congr 2
  rw [decide_eq_decide, UInt8.lt_iff_toNat_lt]
  omega
@[go_sem] theorem gtr_w8i (x : UInt8) (n : Int) (h0 : 0 ≤ n) (h1 : n < 256) : binOp .gtr T (W8 x) (.int .u8 n) = pure (.bool (decide ((UInt8.ofNat n.toNat) < x))) := by
  rw [lit_w8 n h0 h1]
  exact gtr_w8 T x _
@[go_sem] theorem gtr_iw8 (y : UInt8) (n : Int) (h0 : 0 ≤ n) (h1 : n < 256) : binOp .gtr T (.int .u8 n) (W8 y) = pure (.bool (decide (y < (UInt8.ofNat n.toNat)))) := by
  rw [lit_w8 n h0 h1]
  exact gtr_w8 T _ y
@[go_sem] theorem geq_w8 (x y : UInt8) : binOp .geq T (W8 x) (W8 y) = pure (.bool (decide (y ≤ x))) := by
  show binOp .geq T (.int .u8 x.toNat) (.int .u8 y.toNat) = _
  rw [binOp_geq]
  congr 2
  rw [decide_eq_decide, UInt8.le_iff_toNat_le]
  omega
@[go_sem] theorem geq_w8i (x : UInt8) (n : Int) (h0 : 0 ≤ n) (h1 : n < 256) : binOp .geq T (W8 x) (.int .u8 n) = pure (.bool (decide ((UInt8.ofNat n.toNat) ≤ x))) := by
  rw [lit_w8 n h0 h1]
  exact geq_w8 T x _
@[go_sem] theorem geq_iw8 (y : UInt8) (n : Int) (h0 : 0 ≤ n) (h1 : n < 256) : binOp .geq T (.int .u8 n) (W8 y) = pure (.bool (decide (y ≤ (UInt8.ofNat n.toNat)))) := by
  rw [lit_w8 n h0 h1]
  exact geq_w8 T _ y
@[go_sem] theorem quo_w8 (x y : UInt8) (hy : ¬ ((y).toNat : Int) = 0) : binOp .quo T (W8 x) (W8 y) = pure (W8 (x / y)) := by
  show binOp .quo T (.int .u8 x.toNat) (.int .u8 y.toNat) = _
  rw [binOp_quo]
  simp only [Op.intDiv]
  rw [if_neg hy, w8_eq (x := x / y)]
  rw [wrap_u8, UInt8.toNat_div, Int.tdiv_eq_ediv_of_nonneg (by omega), ← Int.natCast_ediv]
  have h1 := Nat.div_le_self x.toNat y.toNat
  have h2 := x.toNat_lt
  generalize x.toNat / y.toNat = q at *
  omega
@[go_sem] theorem quo_w8i (x : UInt8) (n : Int) (h0 : 0 ≤ n) (h1 : n < 256) (hy : ¬ ((UInt8.ofNat n.toNat).toNat : Int) = 0) : binOp .quo T (W8 x) (.int .u8 n) = pure (W8 (x / (UInt8.ofNat n.toNat))) := by
  rw [lit_w8 n h0 h1]
  exact quo_w8 T x _ hy
@[go_sem] theorem quo_iw8 (y : UInt8) (n : Int) (h0 : 0 ≤ n) (h1 : n < 256) (hy : ¬ ((y).toNat : Int) = 0) : binOp .quo T (.int .u8 n) (W8 y) = pure (W8 (UInt8.ofNat n.toNat / y)) := by
  rw [lit_w8 n h0 h1]
  exact quo_w8 T _ y hy
@[go_sem] theorem rem_w8 (x y : UInt8) (hy : ¬ ((y).toNat : Int) = 0) : binOp .rem T (W8 x) (W8 y) = pure (W8 (x % y)) := by
  show binOp .rem T (.int .u8 x.toNat) (.int .u8 y.toNat) = _
  rw [binOp_rem]
  simp only [Op.intDiv]
  rw [if_neg hy, w8_eq (x := x % y)]
  rw [UInt8.toNat_mod, Int.tmod_eq_emod_of_nonneg (by omega), ← Int.natCast_emod]
@[go_sem] theorem rem_w8i (x : UInt8) (n : Int) (h0 : 0 ≤ n) (h1 : n < 256) (hy : ¬ ((UInt8.ofNat n.toNat).toNat : Int) = 0) : binOp .rem T (W8 x) (.int .u8 n) = pure (W8 (x % (UInt8.ofNat n.toNat))) := by
  rw [lit_w8 n h0 h1]
  exact rem_w8 T x _ hy
@[go_sem] theorem rem_iw8 (y : UInt8) (n : Int) (h0 : 0 ≤ n) (h1 : n < 256) (hy : ¬ ((y).toNat : Int) = 0) : binOp .rem T (.int .u8 n) (W8 y) = pure (W8 (UInt8.ofNat n.toNat % y)) := by
  rw [lit_w8 n h0 h1]
  exact rem_w8 T _ y hy
theorem shl_w8' (x : UInt8) (yk : IntKind) (n : Int) (h0 : 0 ≤ n) : binOp .shl T (W8 x) (.int yk n) = pure (W8 (shl8 x n.toNat)) := by
  show binOp .shl T (.int .u8 x.toNat) (.int yk n) = _
  rw [binOp_shl]
  simp only [Op.shift]
  rw [if_neg (by omega), w8_eq (x := shl8 x n.toNat)]
  have e : (shl8 x n.toNat).toNat = (x.toNat * 2 ^ n.toNat) % 256 := by
    show (x.toBitVec <<< n.toNat).toNat = _
    rw [BitVec.toNat_shiftLeft, Nat.shiftLeft_eq]
    rfl
  rw [wrap_u8, e]
  have hb : IntKind.bits .u8 = 8 := rfl
  rw [hb]
  rcases Nat.le_total n.toNat 8 with h | h
  · rw [Nat.min_eq_left h]
    have : ((2 : Int) ^ n.toNat) = ((2 ^ n.toNat : Nat) : Int) := by simp
    rw [this, ← Int.natCast_mul]
    omega
  · rw [Nat.min_eq_right h]
    obtain ⟨d, hd⟩ := Nat.exists_eq_add_of_le h
    have e1 : x.toNat * 2 ^ n.toNat = 256 * (x.toNat * 2 ^ d) := by rw [hd, Nat.pow_add]; show x.toNat * (256 * 2 ^ d) = _; rw [Nat.mul_left_comm]
    rw [e1, Nat.mul_mod_right]
    omega
@[go_sem] theorem shl_w8 (x : UInt8) (yk : IntKind) (n : Int) : binOp .shl T (W8 x) (.int yk n) = if n < 0 then runtimePanic (.error "negative shift amount") else pure (W8 (shl8 x n.toNat)) := by
  by_cases h : n < 0
  · rw [if_pos h]
    show binOp .shl T (.int .u8 x.toNat) (.int yk n) = _
    rw [binOp_shl]
    simp only [Op.shift]
    rw [if_pos h]
  · rw [if_neg h]
    exact shl_w8' T x yk n (by omega)
theorem shr_w8' (x : UInt8) (yk : IntKind) (n : Int) (h0 : 0 ≤ n) : binOp .shr T (W8 x) (.int yk n) = pure (W8 (shr8 x n.toNat)) := by
  show binOp .shr T (.int .u8 x.toNat) (.int yk n) = _
  rw [binOp_shr]
  simp only [Op.shift]
  rw [if_neg (by omega), w8_eq (x := shr8 x n.toNat)]
  have e : (shr8 x n.toNat).toNat = x.toNat / 2 ^ n.toNat := by
    show (x.toBitVec >>> n.toNat).toNat = _
    rw [BitVec.toNat_ushiftRight, Nat.shiftRight_eq_div_pow]
    rfl
  rw [e]
  have hb : IntKind.bits .u8 = 8 := rfl
  rw [hb]
  have hx := x.toNat_lt
  have ep : ∀ m : Nat, ((2 : Int) ^ m) = ((2 ^ m : Nat) : Int) := fun m => by simp
  rw [ep, Int.fdiv_eq_ediv_of_nonneg _ (Int.natCast_nonneg _), ← Int.natCast_ediv]
  rcases Nat.le_total n.toNat 8 with h | h
  · rw [Nat.min_eq_left h]
  · rw [Nat.min_eq_right h]
    have h1 : x.toNat / 2 ^ 8 = 0 := Nat.div_eq_of_lt (by simpa using hx)
    have h2 : x.toNat / 2 ^ n.toNat = 0 := Nat.div_eq_of_lt (Nat.lt_of_lt_of_le (by simpa using hx) (Nat.pow_le_pow_right (by omega) h))
    rw [h1, h2]
@[go_sem] theorem shr_w8 (x : UInt8) (yk : IntKind) (n : Int) : binOp .shr T (W8 x) (.int yk n) = if n < 0 then runtimePanic (.error "negative shift amount") else pure (W8 (shr8 x n.toNat)) := by
  by_cases h : n < 0
  · rw [if_pos h]
    show binOp .shr T (.int .u8 x.toNat) (.int yk n) = _
    rw [binOp_shr]
    simp only [Op.shift]
    rw [if_pos h]
  · rw [if_neg h]
    exact shr_w8' T x yk n (by omega)
@[go_sem] theorem shl_w8W (x : UInt8) (n : UInt64) : binOp .shl T (W8 x) (W64 n) = pure (W8 (shl8 x (cnt n))) := shl_w8' T x .u64 n.toNat (by omega)
@[go_sem] theorem shr_w8W (x : UInt8) (n : UInt64) : binOp .shr T (W8 x) (W64 n) = pure (W8 (shr8 x (cnt n))) := shr_w8' T x .u64 n.toNat (by omega)
@[go_sem] theorem unary_xor_w8 (x : UInt8) : Op.unary .xor (W8 x) = pure (W8 (~~~x)) := by
  have h : binOp .xor 0 (.int .u8 (255 : Int)) (W8 x) = pure (W8 (~~~x)) := by
    rw [xor_iw8 0 x 255 (by omega) (by omega)]
    congr 2
  exact h
end

/-! ### 32 bits -/
/-- Shifts by a count that is no word; by the width and more: nothing is left. -/
def shl32 (x : UInt32) (n : Nat) : UInt32 := ⟨x.toBitVec <<< n⟩
def shr32 (x : UInt32) (n : Nat) : UInt32 := ⟨x.toBitVec >>> n⟩
theorem w32_eq {x : UInt32} {n : Int} (h : (x.toNat : Int) = n) : Value.int .u32 n = W32 x := by rw [W32, h]
theorem w32_inj {x y : UInt32} (h : W32 x = W32 y) : x = y := by
  simp only [W32, Value.int.injEq, true_and] at h
  exact UInt32.toNat_inj.1 (by omega)
section
variable (T : TypeId) (ox oy : Operand)
@[go_sem] theorem eqGuard_w32 (op : BinOp) (x y : UInt32) : eqGuard op T ox oy (W32 x) (W32 y) = pure () := eqGuard_int ..
@[go_sem] theorem eqGuard_w32i (op : BinOp) (x : UInt32) (k : IntKind) (y : Int) : eqGuard op T ox oy (W32 x) (.int k y) = pure () := eqGuard_int ..
@[go_sem] theorem eqGuard_iw32 (op : BinOp) (x : UInt32) (k : IntKind) (y : Int) : eqGuard op T ox oy (.int k y) (W32 x) = pure () := eqGuard_int ..
theorem lit_w32 (n : Int) (h0 : 0 ≤ n) (h1 : n < 4294967296) : Value.int .u32 n = W32 (UInt32.ofNat n.toNat) := by
  apply w32_eq
  rw [UInt32.toNat_ofNat']
  omega
theorem ofInt_w32 (n : Int) : (UInt32.ofInt n).toNat = (n % 4294967296).toNat := by
  simp [UInt32.ofInt, UInt32.toNat_ofNat']
  try omega
theorem ofIntNat_w32 (n : Nat) : UInt32.ofInt (n : Int) = UInt32.ofNat n := by
  apply UInt32.toNat_inj.1
  rw [ofInt_w32, UInt32.toNat_ofNat']
  omega
theorem wrap_w32 (n : Int) : Value.int .u32 (IntKind.wrap .u32 n) = W32 (UInt32.ofInt n) := by
  apply w32_eq
  rw [wrap_u32]
  have := ofInt_w32 n
  omega
@[go_sem] theorem add_w32 (x y : UInt32) : binOp .add T (W32 x) (W32 y) = pure (W32 (x + y)) := by
  show binOp .add T (.int .u32 x.toNat) (.int .u32 y.toNat) = _
  rw [binOp_add]
  simp only [Op.intArith]
  rw [w32_eq (x := x + y)]
  rw [wrap_u32, UInt32.toNat_add]
  omega
@[go_sem] theorem add_w32i (x : UInt32) (n : Int) (h0 : 0 ≤ n) (h1 : n < 4294967296) : binOp .add T (W32 x) (.int .u32 n) = pure (W32 (x + UInt32.ofNat n.toNat)) := by
  rw [lit_w32 n h0 h1]
  exact add_w32 T x _
@[go_sem] theorem add_iw32 (y : UInt32) (n : Int) (h0 : 0 ≤ n) (h1 : n < 4294967296) : binOp .add T (.int .u32 n) (W32 y) = pure (W32 (UInt32.ofNat n.toNat + y)) := by
  rw [lit_w32 n h0 h1]
  exact add_w32 T _ y
@[go_sem] theorem sub_w32 (x y : UInt32) : binOp .sub T (W32 x) (W32 y) = pure (W32 (x - y)) := by
  show binOp .sub T (.int .u32 x.toNat) (.int .u32 y.toNat) = _
  rw [binOp_sub]
  simp only [Op.intArith]
  rw [w32_eq (x := x - y)]
  rw [wrap_u32, UInt32.toNat_sub]
  have := y.toNat_lt
  omega
@[go_sem] theorem sub_w32i (x : UInt32) (n : Int) (h0 : 0 ≤ n) (h1 : n < 4294967296) : binOp .sub T (W32 x) (.int .u32 n) = pure (W32 (x - UInt32.ofNat n.toNat)) := by
  rw [lit_w32 n h0 h1]
  exact sub_w32 T x _
@[go_sem] theorem sub_iw32 (y : UInt32) (n : Int) (h0 : 0 ≤ n) (h1 : n < 4294967296) : binOp .sub T (.int .u32 n) (W32 y) = pure (W32 (UInt32.ofNat n.toNat - y)) := by
  rw [lit_w32 n h0 h1]
  exact sub_w32 T _ y
@[go_sem] theorem mul_w32 (x y : UInt32) : binOp .mul T (W32 x) (W32 y) = pure (W32 (x * y)) := by
  show binOp .mul T (.int .u32 x.toNat) (.int .u32 y.toNat) = _
  rw [binOp_mul]
  simp only [Op.intArith]
  rw [w32_eq (x := x * y)]
  rw [wrap_u32, UInt32.toNat_mul, ← Int.natCast_mul]
  omega
@[go_sem] theorem mul_w32i (x : UInt32) (n : Int) (h0 : 0 ≤ n) (h1 : n < 4294967296) : binOp .mul T (W32 x) (.int .u32 n) = pure (W32 (x * UInt32.ofNat n.toNat)) := by
  rw [lit_w32 n h0 h1]
  exact mul_w32 T x _
@[go_sem] theorem mul_iw32 (y : UInt32) (n : Int) (h0 : 0 ≤ n) (h1 : n < 4294967296) : binOp .mul T (.int .u32 n) (W32 y) = pure (W32 (UInt32.ofNat n.toNat * y)) := by
  rw [lit_w32 n h0 h1]
  exact mul_w32 T _ y
@[go_sem] theorem and_w32 (x y : UInt32) : binOp .and T (W32 x) (W32 y) = pure (W32 (x &&& y)) := by
  show binOp .and T (.int .u32 x.toNat) (.int .u32 y.toNat) = _
  rw [binOp_and]
  simp only [Op.intBits]
  rw [w32_eq (x := x &&& y)]
  have e1 : BitVec.ofInt (IntKind.bits .u32) (x.toNat : Int) = x.toBitVec := ofInt_self x.toBitVec
  have e2 : BitVec.ofInt (IntKind.bits .u32) (y.toNat : Int) = y.toBitVec := ofInt_self y.toBitVec
  rw [e1, e2, wrap_u32]
  exact (i32_toNat (x &&& y)).symm
@[go_sem] theorem and_w32i (x : UInt32) (n : Int) (h0 : 0 ≤ n) (h1 : n < 4294967296) : binOp .and T (W32 x) (.int .u32 n) = pure (W32 (x &&& UInt32.ofNat n.toNat)) := by
  rw [lit_w32 n h0 h1]
  exact and_w32 T x _
@[go_sem] theorem and_iw32 (y : UInt32) (n : Int) (h0 : 0 ≤ n) (h1 : n < 4294967296) : binOp .and T (.int .u32 n) (W32 y) = pure (W32 (UInt32.ofNat n.toNat &&& y)) := by
  rw [lit_w32 n h0 h1]
  exact and_w32 T _ y
@[go_sem] theorem or_w32 (x y : UInt32) : binOp .or T (W32 x) (W32 y) = pure (W32 (x ||| y)) := by
  show binOp .or T (.int .u32 x.toNat) (.int .u32 y.toNat) = _
  rw [binOp_or]
  simp only [Op.intBits]
  rw [w32_eq (x := x ||| y)]
  have e1 : BitVec.ofInt (IntKind.bits .u32) (x.toNat : Int) = x.toBitVec := ofInt_self x.toBitVec
  have e2 : BitVec.ofInt (IntKind.bits .u32) (y.toNat : Int) = y.toBitVec := ofInt_self y.toBitVec
  rw [e1, e2, wrap_u32]
  exact (i32_toNat (x ||| y)).symm
@[go_sem] theorem or_w32i (x : UInt32) (n : Int) (h0 : 0 ≤ n) (h1 : n < 4294967296) : binOp .or T (W32 x) (.int .u32 n) = pure (W32 (x ||| UInt32.ofNat n.toNat)) := by
  rw [lit_w32 n h0 h1]
  exact or_w32 T x _
@[go_sem] theorem or_iw32 (y : UInt32) (n : Int) (h0 : 0 ≤ n) (h1 : n < 4294967296) : binOp .or T (.int .u32 n) (W32 y) = pure (W32 (UInt32.ofNat n.toNat ||| y)) := by
  rw [lit_w32 n h0 h1]
  exact or_w32 T _ y
@[go_sem] theorem xor_w32 (x y : UInt32) : binOp .xor T (W32 x) (W32 y) = pure (W32 (x ^^^ y)) := by
  show binOp .xor T (.int .u32 x.toNat) (.int .u32 y.toNat) = _
  rw [binOp_xor]
  simp only [Op.intBits]
  rw [w32_eq (x := x ^^^ y)]
  have e1 : BitVec.ofInt (IntKind.bits .u32) (x.toNat : Int) = x.toBitVec := ofInt_self x.toBitVec
  have e2 : BitVec.ofInt (IntKind.bits .u32) (y.toNat : Int) = y.toBitVec := ofInt_self y.toBitVec
  rw [e1, e2, wrap_u32]
  exact (i32_toNat (x ^^^ y)).symm
@[go_sem] theorem xor_w32i (x : UInt32) (n : Int) (h0 : 0 ≤ n) (h1 : n < 4294967296) : binOp .xor T (W32 x) (.int .u32 n) = pure (W32 (x ^^^ UInt32.ofNat n.toNat)) := by
  rw [lit_w32 n h0 h1]
  exact xor_w32 T x _
@[go_sem] theorem xor_iw32 (y : UInt32) (n : Int) (h0 : 0 ≤ n) (h1 : n < 4294967296) : binOp .xor T (.int .u32 n) (W32 y) = pure (W32 (UInt32.ofNat n.toNat ^^^ y)) := by
  rw [lit_w32 n h0 h1]
  exact xor_w32 T _ y
@[go_sem] theorem eql_w32 (x y : UInt32) : binOp .eql T (W32 x) (W32 y) = pure (.bool (x == y)) := by
  show binOp .eql T (.int .u32 x.toNat) (.int .u32 y.toNat) = _
  rw [binOp_eql]
  have : ((x.toNat : Int) == (y.toNat : Int)) = (x == y) := by
    rw [Bool.eq_iff_iff, beq_iff_eq, beq_iff_eq, ← UInt32.toNat_inj]
    omega
  simp only [this]
@[go_sem] theorem eql_w32i (x : UInt32) (n : Int) (h0 : 0 ≤ n) (h1 : n < 4294967296) : binOp .eql T (W32 x) (.int .u32 n) = pure (.bool (x == (UInt32.ofNat n.toNat))) := by
  rw [lit_w32 n h0 h1]
  exact eql_w32 T x _
@[go_sem] theorem eql_iw32 (y : UInt32) (n : Int) (h0 : 0 ≤ n) (h1 : n < 4294967296) : binOp .eql T (.int .u32 n) (W32 y) = pure (.bool ((UInt32.ofNat n.toNat) == y)) := by
  rw [lit_w32 n h0 h1]
  exact eql_w32 T _ y
@[go_sem] theorem neq_w32 (x y : UInt32) : binOp .neq T (W32 x) (W32 y) = pure (.bool (x != y)) := by
  show binOp .neq T (.int .u32 x.toNat) (.int .u32 y.toNat) = _
  rw [binOp_neq]
  have : ((x.toNat : Int) == (y.toNat : Int)) = (x == y) := by
    rw [Bool.eq_iff_iff, beq_iff_eq, beq_iff_eq, ← UInt32.toNat_inj]
    omega
  simp only [bne, this]
@[go_sem] theorem neq_w32i (x : UInt32) (n : Int) (h0 : 0 ≤ n) (h1 : n < 4294967296) : binOp .neq T (W32 x) (.int .u32 n) = pure (.bool (x != (UInt32.ofNat n.toNat))) := by
  rw [lit_w32 n h0 h1]
  exact neq_w32 T x _
@[go_sem] theorem neq_iw32 (y : UInt32) (n : Int) (h0 : 0 ≤ n) (h1 : n < 4294967296) : binOp .neq T (.int .u32 n) (W32 y) = pure (.bool ((UInt32.ofNat n.toNat) != y)) := by
  rw [lit_w32 n h0 h1]
  exact neq_w32 T _ y
@[go_sem] theorem lss_w32 (x y : UInt32) : binOp .lss T (W32 x) (W32 y) = pure (.bool (decide (x < y))) := by
  show binOp .lss T (.int .u32 x.toNat) (.int .u32 y.toNat) = _
  rw [binOp_lss]
  congr 2
  rw [decide_eq_decide, UInt32.lt_iff_toNat_lt]
  omega
@[go_sem] theorem lss_w32i (x : UInt32) (n : Int) (h0 : 0 ≤ n) (h1 : n < 4294967296) : binOp .lss T (W32 x) (.int .u32 n) = pure (.bool (decide (x < (UInt32.ofNat n.toNat)))) := by
  rw [lit_w32 n h0 h1]
  exact lss_w32 T x _
@[go_sem] theorem lss_iw32 (y : UInt32) (n : Int) (h0 : 0 ≤ n) (h1 : n < 4294967296) : binOp .lss T (.int .u32 n) (W32 y) = pure (.bool (decide ((UInt32.ofNat n.toNat) < y))) := by
  rw [lit_w32 n h0 h1]
  exact lss_w32 T _ y
@[go_sem] theorem leq_w32 (x y : UInt32) : binOp .leq T (W32 x) (W32 y) = pure (.bool (decide (x ≤ y))) := by
  show binOp .leq T (.int .u32 x.toNat) (.int .u32 y.toNat) = _
  rw [binOp_leq]
  congr 2
  rw [decide_eq_decide, UInt32.le_iff_toNat_le]
  omega
@[go_sem] theorem leq_w32i (x : UInt32) (n : Int) (h0 : 0 ≤ n) (h1 : n < 4294967296) : binOp .leq T (W32 x) (.int .u32 n) = pure (.bool (decide (x ≤ (UInt32.ofNat n.toNat)))) := by
  rw [lit_w32 n h0 h1]
  exact leq_w32 T x _
@[go_sem] theorem leq_iw32 (y : UInt32) (n : Int) (h0 : 0 ≤ n) (h1 : n < 4294967296) : binOp .leq T (.int .u32 n) (W32 y) = pure (.bool (decide ((UInt32.ofNat n.toNat) ≤ y))) := by
  rw [lit_w32 n h0 h1]
  exact leq_w32 T _ y
@[go_sem] theorem gtr_w32 (x y : UInt32) : binOp .gtr T (W32 x) (W32 y) = pure (.bool (decide (y < x))) := by
  show binOp .gtr T (.int .u32 x.toNat) (.int .u32 y.toNat) = _
  rw [binOp_gtr]
  congr 2
  rw [decide_eq_decide, UInt32.lt_iff_toNat_lt]
  omega
@[go_sem] theorem gtr_w32i (x : UInt32) (n : Int) (h0 : 0 ≤ n) (h1 : n < 4294967296) : binOp .gtr T (W32 x) (.int .u32 n) = pure (.bool (decide ((UInt32.ofNat n.toNat) < x))) := by
  rw [lit_w32 n h0 h1]
  exact gtr_w32 T x _
@[go_sem] theorem gtr_iw32 (y : UInt32) (n : Int) (h0 : 0 ≤ n) (h1 : n < 4294967296) : binOp .gtr T (.int .u32 n) (W32 y) = pure (.bool (decide (y < (UInt32.ofNat n.toNat)))) := by
  rw [lit_w32 n h0 h1]
  exact gtr_w32 T _ y
@[go_sem] theorem geq_w32 (x y : UInt32) : binOp .geq T (W32 x) (W32 y) = pure (.bool (decide (y ≤ x))) := by
  show binOp .geq T (.int .u32 x.toNat) (.int .u32 y.toNat) = _
  rw [binOp_geq]
  congr 2
  rw [decide_eq_decide, UInt32.le_iff_toNat_le]
  omega
@[go_sem] theorem geq_w32i (x : UInt32) (n : Int) (h0 : 0 ≤ n) (h1 : n < 4294967296) : binOp .geq T (W32 x) (.int .u32 n) = pure (.bool (decide ((UInt32.ofNat n.toNat) ≤ x))) := by
  rw [lit_w32 n h0 h1]
  exact geq_w32 T x _
@[go_sem] theorem geq_iw32 (y : UInt32) (n : Int) (h0 : 0 ≤ n) (h1 : n < 4294967296) : binOp .geq T (.int .u32 n) (W32 y) = pure (.bool (decide (y ≤ (UInt32.ofNat n.toNat)))) := by
  rw [lit_w32 n h0 h1]
  exact geq_w32 T _ y
@[go_sem] theorem quo_w32 (x y : UInt32) (hy : ¬ ((y).toNat : Int) = 0) : binOp .quo T (W32 x) (W32 y) = pure (W32 (x / y)) := by
  show binOp .quo T (.int .u32 x.toNat) (.int .u32 y.toNat) = _
  rw [binOp_quo]
  simp only [Op.intDiv]
  rw [if_neg hy, w32_eq (x := x / y)]
  rw [wrap_u32, UInt32.toNat_div, Int.tdiv_eq_ediv_of_nonneg (by omega), ← Int.natCast_ediv]
  have h1 := Nat.div_le_self x.toNat y.toNat
  have h2 := x.toNat_lt
  generalize x.toNat / y.toNat = q at *
  omega
@[go_sem] theorem quo_w32i (x : UInt32) (n : Int) (h0 : 0 ≤ n) (h1 : n < 4294967296) (hy : ¬ ((UInt32.ofNat n.toNat).toNat : Int) = 0) : binOp .quo T (W32 x) (.int .u32 n) = pure (W32 (x / (UInt32.ofNat n.toNat))) := by
  rw [lit_w32 n h0 h1]
  exact quo_w32 T x _ hy
@[go_sem] theorem quo_iw32 (y : UInt32) (n : Int) (h0 : 0 ≤ n) (h1 : n < 4294967296) (hy : ¬ ((y).toNat : Int) = 0) : binOp .quo T (.int .u32 n) (W32 y) = pure (W32 (UInt32.ofNat n.toNat / y)) := by
  rw [lit_w32 n h0 h1]
  exact quo_w32 T _ y hy
@[go_sem] theorem rem_w32 (x y : UInt32) (hy : ¬ ((y).toNat : Int) = 0) : binOp .rem T (W32 x) (W32 y) = pure (W32 (x % y)) := by
  show binOp .rem T (.int .u32 x.toNat) (.int .u32 y.toNat) = _
  rw [binOp_rem]
  simp only [Op.intDiv]
  rw [if_neg hy, w32_eq (x := x % y)]
  rw [UInt32.toNat_mod, Int.tmod_eq_emod_of_nonneg (by omega), ← Int.natCast_emod]
@[go_sem] theorem rem_w32i (x : UInt32) (n : Int) (h0 : 0 ≤ n) (h1 : n < 4294967296) (hy : ¬ ((UInt32.ofNat n.toNat).toNat : Int) = 0) : binOp .rem T (W32 x) (.int .u32 n) = pure (W32 (x % (UInt32.ofNat n.toNat))) := by
  rw [lit_w32 n h0 h1]
  exact rem_w32 T x _ hy
@[go_sem] theorem rem_iw32 (y : UInt32) (n : Int) (h0 : 0 ≤ n) (h1 : n < 4294967296) (hy : ¬ ((y).toNat : Int) = 0) : binOp .rem T (.int .u32 n) (W32 y) = pure (W32 (UInt32.ofNat n.toNat % y)) := by
  rw [lit_w32 n h0 h1]
  exact rem_w32 T _ y hy
theorem shl_w32' (x : UInt32) (yk : IntKind) (n : Int) (h0 : 0 ≤ n) : binOp .shl T (W32 x) (.int yk n) = pure (W32 (shl32 x n.toNat)) := by
  show binOp .shl T (.int .u32 x.toNat) (.int yk n) = _
  rw [binOp_shl]
  simp only [Op.shift]
  rw [if_neg (by omega), w32_eq (x := shl32 x n.toNat)]
  have e : (shl32 x n.toNat).toNat = (x.toNat * 2 ^ n.toNat) % 4294967296 := by
    show (x.toBitVec <<< n.toNat).toNat = _
    rw [BitVec.toNat_shiftLeft, Nat.shiftLeft_eq]
    rfl
  rw [wrap_u32, e]
  have hb : IntKind.bits .u32 = 32 := rfl
  rw [hb]
  rcases Nat.le_total n.toNat 32 with h | h
  · rw [Nat.min_eq_left h]
    have : ((2 : Int) ^ n.toNat) = ((2 ^ n.toNat : Nat) : Int) := by simp
    rw [this, ← Int.natCast_mul]
    omega
  · rw [Nat.min_eq_right h]
    obtain ⟨d, hd⟩ := Nat.exists_eq_add_of_le h
    have e1 : x.toNat * 2 ^ n.toNat = 4294967296 * (x.toNat * 2 ^ d) := by rw [hd, Nat.pow_add]; show x.toNat * (4294967296 * 2 ^ d) = _; rw [Nat.mul_left_comm]
    rw [e1, Nat.mul_mod_right]
    omega
@[go_sem] theorem shl_w32 (x : UInt32) (yk : IntKind) (n : Int) : binOp .shl T (W32 x) (.int yk n) = if n < 0 then runtimePanic (.error "negative shift amount") else pure (W32 (shl32 x n.toNat)) := by
  by_cases h : n < 0
  · rw [if_pos h]
    show binOp .shl T (.int .u32 x.toNat) (.int yk n) = _
    rw [binOp_shl]
    simp only [Op.shift]
    rw [if_pos h]
  · rw [if_neg h]
    exact shl_w32' T x yk n (by omega)
theorem shr_w32' (x : UInt32) (yk : IntKind) (n : Int) (h0 : 0 ≤ n) : binOp .shr T (W32 x) (.int yk n) = pure (W32 (shr32 x n.toNat)) := by
  show binOp .shr T (.int .u32 x.toNat) (.int yk n) = _
  rw [binOp_shr]
  simp only [Op.shift]
  rw [if_neg (by omega), w32_eq (x := shr32 x n.toNat)]
  have e : (shr32 x n.toNat).toNat = x.toNat / 2 ^ n.toNat := by
    show (x.toBitVec >>> n.toNat).toNat = _
    rw [BitVec.toNat_ushiftRight, Nat.shiftRight_eq_div_pow]
    rfl
  rw [e]
  have hb : IntKind.bits .u32 = 32 := rfl
  rw [hb]
  have hx := x.toNat_lt
  have ep : ∀ m : Nat, ((2 : Int) ^ m) = ((2 ^ m : Nat) : Int) := fun m => by simp
  rw [ep, Int.fdiv_eq_ediv_of_nonneg _ (Int.natCast_nonneg _), ← Int.natCast_ediv]
  rcases Nat.le_total n.toNat 32 with h | h
  · rw [Nat.min_eq_left h]
  · rw [Nat.min_eq_right h]
    have h1 : x.toNat / 2 ^ 32 = 0 := Nat.div_eq_of_lt (by simpa using hx)
    have h2 : x.toNat / 2 ^ n.toNat = 0 := Nat.div_eq_of_lt (Nat.lt_of_lt_of_le (by simpa using hx) (Nat.pow_le_pow_right (by omega) h))
    rw [h1, h2]
@[go_sem] theorem shr_w32 (x : UInt32) (yk : IntKind) (n : Int) : binOp .shr T (W32 x) (.int yk n) = if n < 0 then runtimePanic (.error "negative shift amount") else pure (W32 (shr32 x n.toNat)) := by
  by_cases h : n < 0
  · rw [if_pos h]
    show binOp .shr T (.int .u32 x.toNat) (.int yk n) = _
    rw [binOp_shr]
    simp only [Op.shift]
    rw [if_pos h]
  · rw [if_neg h]
    exact shr_w32' T x yk n (by omega)
@[go_sem] theorem shl_w32W (x : UInt32) (n : UInt64) : binOp .shl T (W32 x) (W64 n) = pure (W32 (shl32 x (cnt n))) := shl_w32' T x .u64 n.toNat (by omega)
@[go_sem] theorem shr_w32W (x : UInt32) (n : UInt64) : binOp .shr T (W32 x) (W64 n) = pure (W32 (shr32 x (cnt n))) := shr_w32' T x .u64 n.toNat (by omega)
@[go_sem] theorem unary_xor_w32 (x : UInt32) : Op.unary .xor (W32 x) = pure (W32 (~~~x)) := by
  have h : binOp .xor 0 (.int .u32 (4294967295 : Int)) (W32 x) = pure (W32 (~~~x)) := by
    rw [xor_iw32 0 x 4294967295 (by omega) (by omega)]
    congr 2
  exact h
end

/-! ### 64 bits -/
/-- Shifts by a count that is no word; by the width and more: nothing is left. -/
def shl64 (x : UInt64) (n : Nat) : UInt64 := ⟨x.toBitVec <<< n⟩
def shr64 (x : UInt64) (n : Nat) : UInt64 := ⟨x.toBitVec >>> n⟩
theorem w64_eq {x : UInt64} {n : Int} (h : (x.toNat : Int) = n) : Value.int .u64 n = W64 x := by rw [W64, h]
theorem w64_inj {x y : UInt64} (h : W64 x = W64 y) : x = y := by
  simp only [W64, Value.int.injEq, true_and] at h
  exact UInt64.toNat_inj.1 (by omega)
section
variable (T : TypeId) (ox oy : Operand)
@[go_sem] theorem eqGuard_w64 (op : BinOp) (x y : UInt64) : eqGuard op T ox oy (W64 x) (W64 y) = pure () := eqGuard_int ..
@[go_sem] theorem eqGuard_w64i (op : BinOp) (x : UInt64) (k : IntKind) (y : Int) : eqGuard op T ox oy (W64 x) (.int k y) = pure () := eqGuard_int ..
@[go_sem] theorem eqGuard_iw64 (op : BinOp) (x : UInt64) (k : IntKind) (y : Int) : eqGuard op T ox oy (.int k y) (W64 x) = pure () := eqGuard_int ..
theorem lit_w64 (n : Int) (h0 : 0 ≤ n) (h1 : n < 18446744073709551616) : Value.int .u64 n = W64 (UInt64.ofNat n.toNat) := by
  apply w64_eq
  rw [UInt64.toNat_ofNat']
  omega
theorem ofInt_w64 (n : Int) : (UInt64.ofInt n).toNat = (n % 18446744073709551616).toNat := by
  simp [UInt64.ofInt, UInt64.toNat_ofNat']
  try omega
theorem ofIntNat_w64 (n : Nat) : UInt64.ofInt (n : Int) = UInt64.ofNat n := by
  apply UInt64.toNat_inj.1
  rw [ofInt_w64, UInt64.toNat_ofNat']
  omega
theorem wrap_w64 (n : Int) : Value.int .u64 (IntKind.wrap .u64 n) = W64 (UInt64.ofInt n) := by
  apply w64_eq
  rw [wrap_u64]
  have := ofInt_w64 n
  omega
@[go_sem] theorem add_w64 (x y : UInt64) : binOp .add T (W64 x) (W64 y) = pure (W64 (x + y)) := by
  show binOp .add T (.int .u64 x.toNat) (.int .u64 y.toNat) = _
  rw [binOp_add]
  simp only [Op.intArith]
  rw [w64_eq (x := x + y)]
  rw [wrap_u64, UInt64.toNat_add]
  omega
@[go_sem] theorem add_w64i (x : UInt64) (n : Int) (h0 : 0 ≤ n) (h1 : n < 18446744073709551616) : binOp .add T (W64 x) (.int .u64 n) = pure (W64 (x + UInt64.ofNat n.toNat)) := by
  rw [lit_w64 n h0 h1]
  exact add_w64 T x _
@[go_sem] theorem add_iw64 (y : UInt64) (n : Int) (h0 : 0 ≤ n) (h1 : n < 18446744073709551616) : binOp .add T (.int .u64 n) (W64 y) = pure (W64 (UInt64.ofNat n.toNat + y)) := by
  rw [lit_w64 n h0 h1]
  exact add_w64 T _ y
@[go_sem] theorem sub_w64 (x y : UInt64) : binOp .sub T (W64 x) (W64 y) = pure (W64 (x - y)) := by
  show binOp .sub T (.int .u64 x.toNat) (.int .u64 y.toNat) = _
  rw [binOp_sub]
  simp only [Op.intArith]
  rw [w64_eq (x := x - y)]
  rw [wrap_u64, UInt64.toNat_sub]
  have := y.toNat_lt
  omega
@[go_sem] theorem sub_w64i (x : UInt64) (n : Int) (h0 : 0 ≤ n) (h1 : n < 18446744073709551616) : binOp .sub T (W64 x) (.int .u64 n) = pure (W64 (x - UInt64.ofNat n.toNat)) := by
  rw [lit_w64 n h0 h1]
  exact sub_w64 T x _
@[go_sem] theorem sub_iw64 (y : UInt64) (n : Int) (h0 : 0 ≤ n) (h1 : n < 18446744073709551616) : binOp .sub T (.int .u64 n) (W64 y) = pure (W64 (UInt64.ofNat n.toNat - y)) := by
  rw [lit_w64 n h0 h1]
  exact sub_w64 T _ y
@[go_sem] theorem mul_w64 (x y : UInt64) : binOp .mul T (W64 x) (W64 y) = pure (W64 (x * y)) := by
  show binOp .mul T (.int .u64 x.toNat) (.int .u64 y.toNat) = _
  rw [binOp_mul]
  simp only [Op.intArith]
  rw [w64_eq (x := x * y)]
  rw [wrap_u64, UInt64.toNat_mul, ← Int.natCast_mul]
  omega
@[go_sem] theorem mul_w64i (x : UInt64) (n : Int) (h0 : 0 ≤ n) (h1 : n < 18446744073709551616) : binOp .mul T (W64 x) (.int .u64 n) = pure (W64 (x * UInt64.ofNat n.toNat)) := by
  rw [lit_w64 n h0 h1]
  exact mul_w64 T x _
@[go_sem] theorem mul_iw64 (y : UInt64) (n : Int) (h0 : 0 ≤ n) (h1 : n < 18446744073709551616) : binOp .mul T (.int .u64 n) (W64 y) = pure (W64 (UInt64.ofNat n.toNat * y)) := by
  rw [lit_w64 n h0 h1]
  exact mul_w64 T _ y
@[go_sem] theorem and_w64 (x y : UInt64) : binOp .and T (W64 x) (W64 y) = pure (W64 (x &&& y)) := by
  show binOp .and T (.int .u64 x.toNat) (.int .u64 y.toNat) = _
  rw [binOp_and]
  simp only [Op.intBits]
  rw [w64_eq (x := x &&& y)]
  have e1 : BitVec.ofInt (IntKind.bits .u64) (x.toNat : Int) = x.toBitVec := ofInt_self x.toBitVec
  have e2 : BitVec.ofInt (IntKind.bits .u64) (y.toNat : Int) = y.toBitVec := ofInt_self y.toBitVec
  rw [e1, e2, wrap_u64]
  exact (i64_toNat (x &&& y)).symm
@[go_sem] theorem and_w64i (x : UInt64) (n : Int) (h0 : 0 ≤ n) (h1 : n < 18446744073709551616) : binOp .and T (W64 x) (.int .u64 n) = pure (W64 (x &&& UInt64.ofNat n.toNat)) := by
  rw [lit_w64 n h0 h1]
  exact and_w64 T x _
@[go_sem] theorem and_iw64 (y : UInt64) (n : Int) (h0 : 0 ≤ n) (h1 : n < 18446744073709551616) : binOp .and T (.int .u64 n) (W64 y) = pure (W64 (UInt64.ofNat n.toNat &&& y)) := by
  rw [lit_w64 n h0 h1]
  exact and_w64 T _ y
@[go_sem] theorem or_w64 (x y : UInt64) : binOp .or T (W64 x) (W64 y) = pure (W64 (x ||| y)) := by
  show binOp .or T (.int .u64 x.toNat) (.int .u64 y.toNat) = _
  rw [binOp_or]
  simp only [Op.intBits]
  rw [w64_eq (x := x ||| y)]
  have e1 : BitVec.ofInt (IntKind.bits .u64) (x.toNat : Int) = x.toBitVec := ofInt_self x.toBitVec
  have e2 : BitVec.ofInt (IntKind.bits .u64) (y.toNat : Int) = y.toBitVec := ofInt_self y.toBitVec
  rw [e1, e2, wrap_u64]
  exact (i64_toNat (x ||| y)).symm
@[go_sem] theorem or_w64i (x : UInt64) (n : Int) (h0 : 0 ≤ n) (h1 : n < 18446744073709551616) : binOp .or T (W64 x) (.int .u64 n) = pure (W64 (x ||| UInt64.ofNat n.toNat)) := by
  rw [lit_w64 n h0 h1]
  exact or_w64 T x _
@[go_sem] theorem or_iw64 (y : UInt64) (n : Int) (h0 : 0 ≤ n) (h1 : n < 18446744073709551616) : binOp .or T (.int .u64 n) (W64 y) = pure (W64 (UInt64.ofNat n.toNat ||| y)) := by
  rw [lit_w64 n h0 h1]
  exact or_w64 T _ y
@[go_sem] theorem xor_w64 (x y : UInt64) : binOp .xor T (W64 x) (W64 y) = pure (W64 (x ^^^ y)) := by
  show binOp .xor T (.int .u64 x.toNat) (.int .u64 y.toNat) = _
  rw [binOp_xor]
  simp only [Op.intBits]
  rw [w64_eq (x := x ^^^ y)]
  have e1 : BitVec.ofInt (IntKind.bits .u64) (x.toNat : Int) = x.toBitVec := ofInt_self x.toBitVec
  have e2 : BitVec.ofInt (IntKind.bits .u64) (y.toNat : Int) = y.toBitVec := ofInt_self y.toBitVec
  rw [e1, e2, wrap_u64]
  exact (i64_toNat (x ^^^ y)).symm
@[go_sem] theorem xor_w64i (x : UInt64) (n : Int) (h0 : 0 ≤ n) (h1 : n < 18446744073709551616) : binOp .xor T (W64 x) (.int .u64 n) = pure (W64 (x ^^^ UInt64.ofNat n.toNat)) := by
  rw [lit_w64 n h0 h1]
  exact xor_w64 T x _
@[go_sem] theorem xor_iw64 (y : UInt64) (n : Int) (h0 : 0 ≤ n) (h1 : n < 18446744073709551616) : binOp .xor T (.int .u64 n) (W64 y) = pure (W64 (UInt64.ofNat n.toNat ^^^ y)) := by
  rw [lit_w64 n h0 h1]
  exact xor_w64 T _ y
@[go_sem] theorem eql_w64 (x y : UInt64) : binOp .eql T (W64 x) (W64 y) = pure (.bool (x == y)) := by
  show binOp .eql T (.int .u64 x.toNat) (.int .u64 y.toNat) = _
  rw [binOp_eql]
  have : ((x.toNat : Int) == (y.toNat : Int)) = (x == y) := by
    rw [Bool.eq_iff_iff, beq_iff_eq, beq_iff_eq, ← UInt64.toNat_inj]
    omega
  simp only [this]
@[go_sem] theorem eql_w64i (x : UInt64) (n : Int) (h0 : 0 ≤ n) (h1 : n < 18446744073709551616) : binOp .eql T (W64 x) (.int .u64 n) = pure (.bool (x == (UInt64.ofNat n.toNat))) := by
  rw [lit_w64 n h0 h1]
  exact eql_w64 T x _
@[go_sem] theorem eql_iw64 (y : UInt64) (n : Int) (h0 : 0 ≤ n) (h1 : n < 18446744073709551616) : binOp .eql T (.int .u64 n) (W64 y) = pure (.bool ((UInt64.ofNat n.toNat) == y)) := by
  rw [lit_w64 n h0 h1]
  exact eql_w64 T _ y
@[go_sem] theorem neq_w64 (x y : UInt64) : binOp .neq T (W64 x) (W64 y) = pure (.bool (x != y)) := by
  show binOp .neq T (.int .u64 x.toNat) (.int .u64 y.toNat) = _
  rw [binOp_neq]
  have : ((x.toNat : Int) == (y.toNat : Int)) = (x == y) := by
    rw [Bool.eq_iff_iff, beq_iff_eq, beq_iff_eq, ← UInt64.toNat_inj]
    omega
  simp only [bne, this]
@[go_sem] theorem neq_w64i (x : UInt64) (n : Int) (h0 : 0 ≤ n) (h1 : n < 18446744073709551616) : binOp .neq T (W64 x) (.int .u64 n) = pure (.bool (x != (UInt64.ofNat n.toNat))) := by
  rw [lit_w64 n h0 h1]
  exact neq_w64 T x _
@[go_sem] theorem neq_iw64 (y : UInt64) (n : Int) (h0 : 0 ≤ n) (h1 : n < 18446744073709551616) : binOp .neq T (.int .u64 n) (W64 y) = pure (.bool ((UInt64.ofNat n.toNat) != y)) := by
  rw [lit_w64 n h0 h1]
  exact neq_w64 T _ y
@[go_sem] theorem lss_w64 (x y : UInt64) : binOp .lss T (W64 x) (W64 y) = pure (.bool (decide (x < y))) := by
  show binOp .lss T (.int .u64 x.toNat) (.int .u64 y.toNat) = _
  rw [binOp_lss]
  congr 2
  rw [decide_eq_decide, UInt64.lt_iff_toNat_lt]
  omega
@[go_sem] theorem lss_w64i (x : UInt64) (n : Int) (h0 : 0 ≤ n) (h1 : n < 18446744073709551616) : binOp .lss T (W64 x) (.int .u64 n) = pure (.bool (decide (x < (UInt64.ofNat n.toNat)))) := by
  rw [lit_w64 n h0 h1]
  exact lss_w64 T x _
@[go_sem] theorem lss_iw64 (y : UInt64) (n : Int) (h0 : 0 ≤ n) (h1 : n < 18446744073709551616) : binOp .lss T (.int .u64 n) (W64 y) = pure (.bool (decide ((UInt64.ofNat n.toNat) < y))) := by
  rw [lit_w64 n h0 h1]
  exact lss_w64 T _ y
@[go_sem] theorem leq_w64 (x y : UInt64) : binOp .leq T (W64 x) (W64 y) = pure (.bool (decide (x ≤ y))) := by
  show binOp .leq T (.int .u64 x.toNat) (.int .u64 y.toNat) = _
  rw [binOp_leq]
  congr 2
  rw [decide_eq_decide, UInt64.le_iff_toNat_le]
  omega
@[go_sem] theorem leq_w64i (x : UInt64) (n : Int) (h0 : 0 ≤ n) (h1 : n < 18446744073709551616) : binOp .leq T (W64 x) (.int .u64 n) = pure (.bool (decide (x ≤ (UInt64.ofNat n.toNat)))) := by
  rw [lit_w64 n h0 h1]
  exact leq_w64 T x _
@[go_sem] theorem leq_iw64 (y : UInt64) (n : Int) (h0 : 0 ≤ n) (h1 : n < 18446744073709551616) : binOp .leq T (.int .u64 n) (W64 y) = pure (.bool (decide ((UInt64.ofNat n.toNat) ≤ y))) := by
  rw [lit_w64 n h0 h1]
  exact leq_w64 T _ y
@[go_sem] theorem gtr_w64 (x y : UInt64) : binOp .gtr T (W64 x) (W64 y) = pure (.bool (decide (y < x))) := by
  show binOp .gtr T (.int .u64 x.toNat) (.int .u64 y.toNat) = _
  rw [binOp_gtr]
  congr 2
  rw [decide_eq_decide, UInt64.lt_iff_toNat_lt]
  omega
@[go_sem] theorem gtr_w64i (x : UInt64) (n : Int) (h0 : 0 ≤ n) (h1 : n < 18446744073709551616) : binOp .gtr T (W64 x) (.int .u64 n) = pure (.bool (decide ((UInt64.ofNat n.toNat) < x))) := by
  rw [lit_w64 n h0 h1]
  exact gtr_w64 T x _
@[go_sem] theorem gtr_iw64 (y : UInt64) (n : Int) (h0 : 0 ≤ n) (h1 : n < 18446744073709551616) : binOp .gtr T (.int .u64 n) (W64 y) = pure (.bool (decide (y < (UInt64.ofNat n.toNat)))) := by
  rw [lit_w64 n h0 h1]
  exact gtr_w64 T _ y
@[go_sem] theorem geq_w64 (x y : UInt64) : binOp .geq T (W64 x) (W64 y) = pure (.bool (decide (y ≤ x))) := by
  show binOp .geq T (.int .u64 x.toNat) (.int .u64 y.toNat) = _
  rw [binOp_geq]
  congr 2
  rw [decide_eq_decide, UInt64.le_iff_toNat_le]
  omega
@[go_sem] theorem geq_w64i (x : UInt64) (n : Int) (h0 : 0 ≤ n) (h1 : n < 18446744073709551616) : binOp .geq T (W64 x) (.int .u64 n) = pure (.bool (decide ((UInt64.ofNat n.toNat) ≤ x))) := by
  rw [lit_w64 n h0 h1]
  exact geq_w64 T x _
@[go_sem] theorem geq_iw64 (y : UInt64) (n : Int) (h0 : 0 ≤ n) (h1 : n < 18446744073709551616) : binOp .geq T (.int .u64 n) (W64 y) = pure (.bool (decide (y ≤ (UInt64.ofNat n.toNat)))) := by
  rw [lit_w64 n h0 h1]
  exact geq_w64 T _ y
@[go_sem] theorem quo_w64 (x y : UInt64) (hy : ¬ ((y).toNat : Int) = 0) : binOp .quo T (W64 x) (W64 y) = pure (W64 (x / y)) := by
  show binOp .quo T (.int .u64 x.toNat) (.int .u64 y.toNat) = _
  rw [binOp_quo]
  simp only [Op.intDiv]
  rw [if_neg hy, w64_eq (x := x / y)]
  rw [wrap_u64, UInt64.toNat_div, Int.tdiv_eq_ediv_of_nonneg (by omega), ← Int.natCast_ediv]
  have h1 := Nat.div_le_self x.toNat y.toNat
  have h2 := x.toNat_lt
  generalize x.toNat / y.toNat = q at *
  omega
@[go_sem] theorem quo_w64i (x : UInt64) (n : Int) (h0 : 0 ≤ n) (h1 : n < 18446744073709551616) (hy : ¬ ((UInt64.ofNat n.toNat).toNat : Int) = 0) : binOp .quo T (W64 x) (.int .u64 n) = pure (W64 (x / (UInt64.ofNat n.toNat))) := by
  rw [lit_w64 n h0 h1]
  exact quo_w64 T x _ hy
@[go_sem] theorem quo_iw64 (y : UInt64) (n : Int) (h0 : 0 ≤ n) (h1 : n < 18446744073709551616) (hy : ¬ ((y).toNat : Int) = 0) : binOp .quo T (.int .u64 n) (W64 y) = pure (W64 (UInt64.ofNat n.toNat / y)) := by
  rw [lit_w64 n h0 h1]
  exact quo_w64 T _ y hy
@[go_sem] theorem rem_w64 (x y : UInt64) (hy : ¬ ((y).toNat : Int) = 0) : binOp .rem T (W64 x) (W64 y) = pure (W64 (x % y)) := by
  show binOp .rem T (.int .u64 x.toNat) (.int .u64 y.toNat) = _
  rw [binOp_rem]
  simp only [Op.intDiv]
  rw [if_neg hy, w64_eq (x := x % y)]
  rw [UInt64.toNat_mod, Int.tmod_eq_emod_of_nonneg (by omega), ← Int.natCast_emod]
@[go_sem] theorem rem_w64i (x : UInt64) (n : Int) (h0 : 0 ≤ n) (h1 : n < 18446744073709551616) (hy : ¬ ((UInt64.ofNat n.toNat).toNat : Int) = 0) : binOp .rem T (W64 x) (.int .u64 n) = pure (W64 (x % (UInt64.ofNat n.toNat))) := by
  rw [lit_w64 n h0 h1]
  exact rem_w64 T x _ hy
@[go_sem] theorem rem_iw64 (y : UInt64) (n : Int) (h0 : 0 ≤ n) (h1 : n < 18446744073709551616) (hy : ¬ ((y).toNat : Int) = 0) : binOp .rem T (.int .u64 n) (W64 y) = pure (W64 (UInt64.ofNat n.toNat % y)) := by
  rw [lit_w64 n h0 h1]
  exact rem_w64 T _ y hy
theorem shl_w64' (x : UInt64) (yk : IntKind) (n : Int) (h0 : 0 ≤ n) : binOp .shl T (W64 x) (.int yk n) = pure (W64 (shl64 x n.toNat)) := by
  show binOp .shl T (.int .u64 x.toNat) (.int yk n) = _
  rw [binOp_shl]
  simp only [Op.shift]
  rw [if_neg (by omega), w64_eq (x := shl64 x n.toNat)]
  have e : (shl64 x n.toNat).toNat = (x.toNat * 2 ^ n.toNat) % 18446744073709551616 := by
    show (x.toBitVec <<< n.toNat).toNat = _
    rw [BitVec.toNat_shiftLeft, Nat.shiftLeft_eq]
    rfl
  rw [wrap_u64, e]
  have hb : IntKind.bits .u64 = 64 := rfl
  rw [hb]
  rcases Nat.le_total n.toNat 64 with h | h
  · rw [Nat.min_eq_left h]
    have : ((2 : Int) ^ n.toNat) = ((2 ^ n.toNat : Nat) : Int) := by simp
    rw [this, ← Int.natCast_mul]
    omega
  · rw [Nat.min_eq_right h]
    obtain ⟨d, hd⟩ := Nat.exists_eq_add_of_le h
    have e1 : x.toNat * 2 ^ n.toNat = 18446744073709551616 * (x.toNat * 2 ^ d) := by rw [hd, Nat.pow_add]; show x.toNat * (18446744073709551616 * 2 ^ d) = _; rw [Nat.mul_left_comm]
    rw [e1, Nat.mul_mod_right]
    omega
@[go_sem] theorem shl_w64 (x : UInt64) (yk : IntKind) (n : Int) : binOp .shl T (W64 x) (.int yk n) = if n < 0 then runtimePanic (.error "negative shift amount") else pure (W64 (shl64 x n.toNat)) := by
  by_cases h : n < 0
  · rw [if_pos h]
    show binOp .shl T (.int .u64 x.toNat) (.int yk n) = _
    rw [binOp_shl]
    simp only [Op.shift]
    rw [if_pos h]
  · rw [if_neg h]
    exact shl_w64' T x yk n (by omega)
theorem shr_w64' (x : UInt64) (yk : IntKind) (n : Int) (h0 : 0 ≤ n) : binOp .shr T (W64 x) (.int yk n) = pure (W64 (shr64 x n.toNat)) := by
  show binOp .shr T (.int .u64 x.toNat) (.int yk n) = _
  rw [binOp_shr]
  simp only [Op.shift]
  rw [if_neg (by omega), w64_eq (x := shr64 x n.toNat)]
  have e : (shr64 x n.toNat).toNat = x.toNat / 2 ^ n.toNat := by
    show (x.toBitVec >>> n.toNat).toNat = _
    rw [BitVec.toNat_ushiftRight, Nat.shiftRight_eq_div_pow]
    rfl
  rw [e]
  have hb : IntKind.bits .u64 = 64 := rfl
  rw [hb]
  have hx := x.toNat_lt
  have ep : ∀ m : Nat, ((2 : Int) ^ m) = ((2 ^ m : Nat) : Int) := fun m => by simp
  rw [ep, Int.fdiv_eq_ediv_of_nonneg _ (Int.natCast_nonneg _), ← Int.natCast_ediv]
  rcases Nat.le_total n.toNat 64 with h | h
  · rw [Nat.min_eq_left h]
  · rw [Nat.min_eq_right h]
    have h1 : x.toNat / 2 ^ 64 = 0 := Nat.div_eq_of_lt (by simpa using hx)
    have h2 : x.toNat / 2 ^ n.toNat = 0 := Nat.div_eq_of_lt (Nat.lt_of_lt_of_le (by simpa using hx) (Nat.pow_le_pow_right (by omega) h))
    rw [h1, h2]
@[go_sem] theorem shr_w64 (x : UInt64) (yk : IntKind) (n : Int) : binOp .shr T (W64 x) (.int yk n) = if n < 0 then runtimePanic (.error "negative shift amount") else pure (W64 (shr64 x n.toNat)) := by
  by_cases h : n < 0
  · rw [if_pos h]
    show binOp .shr T (.int .u64 x.toNat) (.int yk n) = _
    rw [binOp_shr]
    simp only [Op.shift]
    rw [if_pos h]
  · rw [if_neg h]
    exact shr_w64' T x yk n (by omega)
@[go_sem] theorem shl_w64W (x : UInt64) (n : UInt64) : binOp .shl T (W64 x) (W64 n) = pure (W64 (shl64 x (cnt n))) := shl_w64' T x .u64 n.toNat (by omega)
@[go_sem] theorem shr_w64W (x : UInt64) (n : UInt64) : binOp .shr T (W64 x) (W64 n) = pure (W64 (shr64 x (cnt n))) := shr_w64' T x .u64 n.toNat (by omega)
@[go_sem] theorem unary_xor_w64 (x : UInt64) : Op.unary .xor (W64 x) = pure (W64 (~~~x)) := by
  have h : binOp .xor 0 (.int .u64 (18446744073709551615 : Int)) (W64 x) = pure (W64 (~~~x)) := by
    rw [xor_iw64 0 x 18446744073709551615 (by omega) (by omega)]
    congr 2
  exact h
end
section
variable {P : Program} (w : World) (S D : TypeId)
@[go_sem] theorem run_convert_w8_w8 (x : UInt8) (hs : (P.underlying S).isSome = true) (hd : P.underlying D = some (.int .u8)) : (convert S D (W8 x)).run P w = .ok (W8 x) w := by
  have h := run_convert_int (P := P) (w := w) S D .u8 x.toNat hs (by unfold Program.intKind; rw [hd])
  have e : P.intKind D = .u8 := by unfold Program.intKind; rw [hd]
  rw [e] at h
  refine h.trans ?_
  rw [w8_eq (x := x)]
  rw [wrap_u8]
  have := x.toNat_lt
  skip
  omega
@[go_sem] theorem run_convert_w8_w32 (x : UInt8) (hs : (P.underlying S).isSome = true) (hd : P.underlying D = some (.int .u32)) : (convert S D (W8 x)).run P w = .ok (W32 x.toUInt32) w := by
  have h := run_convert_int (P := P) (w := w) S D .u8 x.toNat hs (by unfold Program.intKind; rw [hd])
  have e : P.intKind D = .u32 := by unfold Program.intKind; rw [hd]
  rw [e] at h
  refine h.trans ?_
  rw [w32_eq (x := x.toUInt32)]
  rw [wrap_u32]
  have := x.toNat_lt
  rw [UInt8.toNat_toUInt32]
  omega
@[go_sem] theorem run_convert_w8_w64 (x : UInt8) (hs : (P.underlying S).isSome = true) (hd : P.underlying D = some (.int .u64)) : (convert S D (W8 x)).run P w = .ok (W64 x.toUInt64) w := by
  have h := run_convert_int (P := P) (w := w) S D .u8 x.toNat hs (by unfold Program.intKind; rw [hd])
  have e : P.intKind D = .u64 := by unfold Program.intKind; rw [hd]
  rw [e] at h
  refine h.trans ?_
  rw [w64_eq (x := x.toUInt64)]
  rw [wrap_u64]
  have := x.toNat_lt
  rw [UInt8.toNat_toUInt64]
  omega
@[go_sem] theorem run_convert_w8_int (x : UInt8) (hs : (P.underlying S).isSome = true) (hd : P.underlying D = some (.int .i64)) : (convert S D (W8 x)).run P w = .ok (.int .i64 (IntKind.i64.wrap x.toNat)) w := by
  have h := run_convert_int (P := P) (w := w) S D .u8 x.toNat hs (by unfold Program.intKind; rw [hd])
  have e : P.intKind D = .i64 := by unfold Program.intKind; rw [hd]
  rw [e] at h
  exact h
@[go_sem] theorem run_convert_w32_w8 (x : UInt32) (hs : (P.underlying S).isSome = true) (hd : P.underlying D = some (.int .u8)) : (convert S D (W32 x)).run P w = .ok (W8 x.toUInt8) w := by
  have h := run_convert_int (P := P) (w := w) S D .u32 x.toNat hs (by unfold Program.intKind; rw [hd])
  have e : P.intKind D = .u8 := by unfold Program.intKind; rw [hd]
  rw [e] at h
  refine h.trans ?_
  rw [w8_eq (x := x.toUInt8)]
  rw [wrap_u8]
  skip
  rw [UInt32.toNat_toUInt8]
  omega
@[go_sem] theorem run_convert_w32_w32 (x : UInt32) (hs : (P.underlying S).isSome = true) (hd : P.underlying D = some (.int .u32)) : (convert S D (W32 x)).run P w = .ok (W32 x) w := by
  have h := run_convert_int (P := P) (w := w) S D .u32 x.toNat hs (by unfold Program.intKind; rw [hd])
  have e : P.intKind D = .u32 := by unfold Program.intKind; rw [hd]
  rw [e] at h
  refine h.trans ?_
  rw [w32_eq (x := x)]
  rw [wrap_u32]
  have := x.toNat_lt
  skip
  omega
@[go_sem] theorem run_convert_w32_w64 (x : UInt32) (hs : (P.underlying S).isSome = true) (hd : P.underlying D = some (.int .u64)) : (convert S D (W32 x)).run P w = .ok (W64 x.toUInt64) w := by
  have h := run_convert_int (P := P) (w := w) S D .u32 x.toNat hs (by unfold Program.intKind; rw [hd])
  have e : P.intKind D = .u64 := by unfold Program.intKind; rw [hd]
  rw [e] at h
  refine h.trans ?_
  rw [w64_eq (x := x.toUInt64)]
  rw [wrap_u64]
  have := x.toNat_lt
  rw [UInt32.toNat_toUInt64]
  omega
@[go_sem] theorem run_convert_w32_int (x : UInt32) (hs : (P.underlying S).isSome = true) (hd : P.underlying D = some (.int .i64)) : (convert S D (W32 x)).run P w = .ok (.int .i64 (IntKind.i64.wrap x.toNat)) w := by
  have h := run_convert_int (P := P) (w := w) S D .u32 x.toNat hs (by unfold Program.intKind; rw [hd])
  have e : P.intKind D = .i64 := by unfold Program.intKind; rw [hd]
  rw [e] at h
  exact h
@[go_sem] theorem run_convert_w64_w8 (x : UInt64) (hs : (P.underlying S).isSome = true) (hd : P.underlying D = some (.int .u8)) : (convert S D (W64 x)).run P w = .ok (W8 x.toUInt8) w := by
  have h := run_convert_int (P := P) (w := w) S D .u64 x.toNat hs (by unfold Program.intKind; rw [hd])
  have e : P.intKind D = .u8 := by unfold Program.intKind; rw [hd]
  rw [e] at h
  refine h.trans ?_
  rw [w8_eq (x := x.toUInt8)]
  rw [wrap_u8]
  skip
  rw [UInt64.toNat_toUInt8]
  omega
@[go_sem] theorem run_convert_w64_w32 (x : UInt64) (hs : (P.underlying S).isSome = true) (hd : P.underlying D = some (.int .u32)) : (convert S D (W64 x)).run P w = .ok (W32 x.toUInt32) w := by
  have h := run_convert_int (P := P) (w := w) S D .u64 x.toNat hs (by unfold Program.intKind; rw [hd])
  have e : P.intKind D = .u32 := by unfold Program.intKind; rw [hd]
  rw [e] at h
  refine h.trans ?_
  rw [w32_eq (x := x.toUInt32)]
  rw [wrap_u32]
  skip
  rw [UInt64.toNat_toUInt32]
  omega
@[go_sem] theorem run_convert_w64_w64 (x : UInt64) (hs : (P.underlying S).isSome = true) (hd : P.underlying D = some (.int .u64)) : (convert S D (W64 x)).run P w = .ok (W64 x) w := by
  have h := run_convert_int (P := P) (w := w) S D .u64 x.toNat hs (by unfold Program.intKind; rw [hd])
  have e : P.intKind D = .u64 := by unfold Program.intKind; rw [hd]
  rw [e] at h
  refine h.trans ?_
  rw [w64_eq (x := x)]
  rw [wrap_u64]
  have := x.toNat_lt
  skip
  omega
@[go_sem] theorem run_convert_w64_int (x : UInt64) (hs : (P.underlying S).isSome = true) (hd : P.underlying D = some (.int .i64)) : (convert S D (W64 x)).run P w = .ok (.int .i64 (IntKind.i64.wrap x.toNat)) w := by
  have h := run_convert_int (P := P) (w := w) S D .u64 x.toNat hs (by unfold Program.intKind; rw [hd])
  have e : P.intKind D = .i64 := by unfold Program.intKind; rw [hd]
  rw [e] at h
  exact h
end
@[go_sem] theorem run_store_w8 (P : Program) (w : World) (a : Addr) (m : Mode) (x : UInt8) : (store a (W8 x) m).run P w = stored P w a (W8 x) m := run_store P w a _ m rfl
@[go_sem ↓] theorem cells_w8 (x : UInt8) : (W8 x).cells = #[W8 x] := rfl
@[go_sem] theorem run_store_w32 (P : Program) (w : World) (a : Addr) (m : Mode) (x : UInt32) : (store a (W32 x) m).run P w = stored P w a (W32 x) m := run_store P w a _ m rfl
@[go_sem ↓] theorem cells_w32 (x : UInt32) : (W32 x).cells = #[W32 x] := rfl
@[go_sem] theorem run_store_w64 (P : Program) (w : World) (a : Addr) (m : Mode) (x : UInt64) : (store a (W64 x) m).run P w = stored P w a (W64 x) m := run_store P w a _ m rfl
@[go_sem ↓] theorem cells_w64 (x : UInt64) : (W64 x).cells = #[W64 x] := rfl
attribute [go_sem] wrap_w8 wrap_w32 wrap_w64
end Go.Proofs.Ytkibgdigcgakfaa
