/-
  Words as numbers: 'n64 x' is the word of x modulo 2^64, 'n32 x' modulo 2^32, 'n8 x' modulo 2^8; what the operations do with them.
-/
import Derived.Test.YtmdjhbiiifnfiaaMem2
import Derived.Test.YtmdjhbiiifnfiaaDigits
import Derived.LoopN
import Derived.Laws.Externs
import Derived.Lib.Mul64
namespace Go.Proofs.Ytmdjhbiiifnfiaa
open Go.RowKit

def B64 : Nat := 18446744073709551616
def B32 : Nat := 4294967296
theorem B64_pos : 0 < B64 := by decide
theorem B32_pos : 0 < B32 := by decide
def n64 (n : Nat) : Value := W64 (UInt64.ofNat n)
def n32 (n : Nat) : Value := W32 (UInt32.ofNat n)
def n8 (n : Nat) : Value := W8 (UInt8.ofNat n)
@[go_sem] theorem mod_B64 (n : Nat) : (n % B64 < B64) = True := eq_true (Nat.mod_lt _ B64_pos)
@[go_sem] theorem mod_B32 (n : Nat) : (n % B32 < B32) = True := eq_true (Nat.mod_lt _ B32_pos)
theorem n64_w {n : Nat} {x : UInt64} (h : x.toNat = n % B64) : W64 x = n64 n := by
  unfold B64 at h
  rw [n64]
  congr 1
  apply UInt64.toNat_inj.1
  rw [UInt64.toNat_ofNat', h]
theorem n32_w {n : Nat} {x : UInt32} (h : x.toNat = n % B32) : W32 x = n32 n := by
  unfold B32 at h
  rw [n32]
  congr 1
  apply UInt32.toNat_inj.1
  rw [UInt32.toNat_ofNat', h]
theorem n8_w {n : Nat} {x : UInt8} (h : x.toNat = n % 256) : W8 x = n8 n := by
  rw [n8]
  congr 1
  apply UInt8.toNat_inj.1
  rw [UInt8.toNat_ofNat', h]
theorem n64_of {n m : Nat} (h : n % B64 = m % B64) : n64 n = n64 m := by
  rw [n64]
  apply n64_w
  rw [UInt64.toNat_ofNat', ← h]
  rfl
theorem n32_of {n m : Nat} (h : n % B32 = m % B32) : n32 n = n32 m := by
  rw [n32]
  apply n32_w
  rw [UInt32.toNat_ofNat', ← h]
  rfl
theorem w64_n (x : UInt64) : W64 x = n64 x.toNat := by rw [n64, UInt64.ofNat_toNat]
theorem w32_n (x : UInt32) : W32 x = n32 x.toNat := by rw [n32, UInt32.ofNat_toNat]
theorem w8_n (x : UInt8) : W8 x = n8 x.toNat := by rw [n8, UInt8.ofNat_toNat]
theorem tn64 {n : Nat} (h : n < B64) : (UInt64.ofNat n).toNat = n := by
  unfold B64 at h
  rw [UInt64.toNat_ofNat']
  exact Nat.mod_eq_of_lt h
theorem tn32 {n : Nat} (h : n < B32) : (UInt32.ofNat n).toNat = n := by
  unfold B32 at h
  rw [UInt32.toNat_ofNat']
  exact Nat.mod_eq_of_lt h
theorem n64_eq {n : Nat} (h : n < B64) : n64 n = .int .u64 (n : Int) := by rw [n64, W64, tn64 h]
theorem n32_eq {n : Nat} (h : n < B32) : n32 n = .int .u32 (n : Int) := by rw [n32, W32, tn32 h]
theorem n64_lit (k : Int) (h0 : 0 ≤ k) (h1 : k < 18446744073709551616) : Value.int .u64 k = n64 k.toNat := by
  rw [n64_eq (by unfold B64; omega)]
  congr 1
  omega
theorem n32_lit (k : Int) (h0 : 0 ≤ k) (h1 : k < 4294967296) : Value.int .u32 k = n32 k.toNat := by
  rw [n32_eq (by unfold B32; omega)]
  congr 1
  omega
theorem n64_inj {n m : Nat} (hn : n < B64) (hm : m < B64) (h : n64 n = n64 m) : n = m := by
  rw [n64_eq hn, n64_eq hm] at h
  injection h with _ h
  omega
theorem n32_inj {n m : Nat} (hn : n < B32) (hm : m < B32) (h : n32 n = n32 m) : n = m := by
  rw [n32_eq hn, n32_eq hm] at h
  injection h with _ h
  omega
@[go_sem ↓] theorem cells_n64 (x : Nat) : (n64 x).cells = #[n64 x] := rfl
@[go_sem ↓] theorem cells_n32 (x : Nat) : (n32 x).cells = #[n32 x] := rfl
@[go_sem ↓] theorem cells_n8 (x : Nat) : (n8 x).cells = #[n8 x] := rfl
theorem n64_one (l : List Nat) : ∀ v ∈ l.map n64, v.oneCell' = true := by
  intro v hv
  obtain ⟨x, _, rfl⟩ := List.mem_map.1 hv
  rfl
theorem n32_one (l : List Nat) : ∀ v ∈ l.map n32, v.oneCell' = true := by
  intro v hv
  obtain ⟨x, _, rfl⟩ := List.mem_map.1 hv
  rfl
@[go_sem] theorem zero_B64 : (0 < B64) = True := eq_true B64_pos
@[go_sem] theorem one_B64 : (1 < B64) = True := eq_true (by decide)
@[go_sem] theorem zero_B32 : (0 < B32) = True := eq_true B32_pos
@[go_sem] theorem one_B32 : (1 < B32) = True := eq_true (by decide)
section
variable (T : TypeId) (ox oy : Operand)
@[go_sem] theorem eqGuard_n64 (op : BinOp) (x y : Nat) : eqGuard op T ox oy (n64 x) (n64 y) = pure () := eqGuard_int ..
@[go_sem] theorem eqGuard_n64i (op : BinOp) (x : Nat) (k : IntKind) (y : Int) : eqGuard op T ox oy (n64 x) (.int k y) = pure () := eqGuard_int ..
@[go_sem] theorem eqGuard_in64 (op : BinOp) (x : Nat) (k : IntKind) (y : Int) : eqGuard op T ox oy (.int k y) (n64 x) = pure () := eqGuard_int ..
@[go_sem] theorem eqGuard_n32 (op : BinOp) (x y : Nat) : eqGuard op T ox oy (n32 x) (n32 y) = pure () := eqGuard_int ..
@[go_sem] theorem eqGuard_n32i (op : BinOp) (x : Nat) (k : IntKind) (y : Int) : eqGuard op T ox oy (n32 x) (.int k y) = pure () := eqGuard_int ..
@[go_sem] theorem eqGuard_in32 (op : BinOp) (x : Nat) (k : IntKind) (y : Int) : eqGuard op T ox oy (.int k y) (n32 x) = pure () := eqGuard_int ..
@[go_sem] theorem add_n64 (x y : Nat) : binOp .add T (n64 x) (n64 y) = pure (n64 (x + y)) := by
  rw [n64, n64, add_w64, n64_w]
  rw [UInt64.toNat_add, UInt64.toNat_ofNat', UInt64.toNat_ofNat']
  unfold B64
  omega
@[go_sem] theorem add_n64i (x : Nat) (k : Int) (h0 : 0 ≤ k) (h1 : k < 18446744073709551616) : binOp .add T (n64 x) (.int .u64 k) = pure (n64 (x + k.toNat)) := by rw [n64_lit k h0 h1, add_n64]
@[go_sem] theorem add_in64 (x : Nat) (k : Int) (h0 : 0 ≤ k) (h1 : k < 18446744073709551616) : binOp .add T (.int .u64 k) (n64 x) = pure (n64 (k.toNat + x)) := by rw [n64_lit k h0 h1, add_n64]
@[go_sem] theorem sub_n64 (x y : Nat) (hx : x < B64) (hy : y ≤ x) : binOp .sub T (n64 x) (n64 y) = pure (n64 (x - y)) := by
  rw [n64, n64, sub_w64, n64_w]
  unfold B64 at hx
  rw [UInt64.toNat_sub, UInt64.toNat_ofNat', UInt64.toNat_ofNat']
  unfold B64
  omega
@[go_sem] theorem mul_n64 (x y : Nat) : binOp .mul T (n64 x) (n64 y) = pure (n64 (x * y)) := by
  rw [n64, n64, mul_w64, n64_w]
  rw [UInt64.toNat_mul, UInt64.toNat_ofNat', UInt64.toNat_ofNat']
  exact (Nat.mul_mod x y B64).symm
@[go_sem] theorem mul_n64i (x : Nat) (k : Int) (h0 : 0 ≤ k) (h1 : k < 18446744073709551616) : binOp .mul T (n64 x) (.int .u64 k) = pure (n64 (x * k.toNat)) := by rw [n64_lit k h0 h1, mul_n64]
@[go_sem] theorem mul_in64 (x : Nat) (k : Int) (h0 : 0 ≤ k) (h1 : k < 18446744073709551616) : binOp .mul T (.int .u64 k) (n64 x) = pure (n64 (k.toNat * x)) := by rw [n64_lit k h0 h1, mul_n64]
theorem mod_and_low (x : Nat) (k : Nat) : x &&& (2 ^ k - 1) = x % 2 ^ k := Nat.and_two_pow_sub_one_eq_mod x k
@[go_sem] theorem and_low63 (x : Nat) : binOp .and T (n64 x) (.int .u64 9223372036854775807) = pure (n64 (x % 9223372036854775808)) := by
  rw [n64, and_w64i _ _ _ (by omega) (by omega), n64_w]
  rw [UInt64.toNat_and, UInt64.toNat_ofNat', UInt64.toNat_ofNat']
  have := mod_and_low (x % 2 ^ 64) 63
  unfold B64
  simp only [Int.reduceToNat, Nat.reducePow, Nat.reduceSub, Nat.reduceMod] at this ⊢
  rw [this]
  omega
@[go_sem] theorem and_low32 (x : Nat) : binOp .and T (n64 x) (.int .u64 4294967295) = pure (n64 (x % 4294967296)) := by
  rw [n64, and_w64i _ _ _ (by omega) (by omega), n64_w]
  rw [UInt64.toNat_and, UInt64.toNat_ofNat', UInt64.toNat_ofNat']
  have := mod_and_low (x % 2 ^ 64) 32
  unfold B64
  simp only [Int.reduceToNat, Nat.reducePow, Nat.reduceSub, Nat.reduceMod] at this ⊢
  rw [this]
  omega
@[go_sem] theorem and_one64 (x : Nat) : binOp .and T (n64 x) (.int .u64 1) = pure (n64 (x % 2)) := by
  rw [n64, and_w64i _ _ _ (by omega) (by omega), n64_w]
  rw [UInt64.toNat_and, UInt64.toNat_ofNat', UInt64.toNat_ofNat']
  have := mod_and_low (x % 2 ^ 64) 1
  unfold B64
  simp only [Int.reduceToNat, Nat.reducePow, Nat.reduceSub, Nat.reduceMod] at this ⊢
  rw [this]
  omega
@[go_sem] theorem shr_n64 (x : Nat) (hx : x < B64) (yk : IntKind) (k : Int) (h0 : 0 ≤ k) : binOp .shr T (n64 x) (.int yk k) = pure (n64 (x / 2 ^ k.toNat)) := by
  rw [n64, shr_w64' _ _ _ _ h0, n64_w]
  rw [shr64]
  show (BitVec.toNat _) = _
  rw [BitVec.toNat_ushiftRight]
  show (UInt64.ofNat x).toNat >>> _ = _
  rw [tn64 hx, Nat.shiftRight_eq_div_pow]
  have : x / 2 ^ k.toNat < B64 := Nat.lt_of_le_of_lt (Nat.div_le_self _ _) hx
  rw [Nat.mod_eq_of_lt this]
@[go_sem] theorem rem_n64 (x : Nat) (hx : x < B64) (k : Int) (h0 : 0 < k) (h1 : k < 18446744073709551616) : binOp .rem T (n64 x) (.int .u64 k) = pure (n64 (x % k.toNat)) := by
  rw [n64, rem_w64i _ _ _ (by omega) h1 (by rw [UInt64.toNat_ofNat']; omega), n64_w]
  rw [UInt64.toNat_mod, tn64 hx, UInt64.toNat_ofNat', Nat.mod_eq_of_lt (show k.toNat < 2 ^ 64 by omega), Nat.mod_eq_of_lt (Nat.lt_of_le_of_lt (Nat.mod_le _ _) hx)]
@[go_sem] theorem rem_n64_32 (x : Nat) : binOp .rem T (n64 x) (.int .u64 4294967296) = pure (n64 (x % B32)) := by
  rw [n64_of (show x % B64 = (x % B64) % B64 by rw [Nat.mod_mod]), rem_n64 _ _ (Nat.mod_lt _ B64_pos) _ (by omega) (by omega)]
  congr 2
  unfold B64 B32
  simp only [Int.reduceToNat]
  omega
theorem eql_n64 (x y : Nat) (hx : x < B64) (hy : y < B64) : binOp .eql T (n64 x) (n64 y) = pure (.bool (x == y)) := by
  rw [n64, n64, eql_w64]
  congr 2
  rw [Bool.eq_iff_iff]
  simp only [beq_iff_eq, ← UInt64.toNat_inj, tn64 hx, tn64 hy]
@[go_sem] theorem eql_n64i (x : Nat) (k : Int) (hx : x < B64) (h0 : 0 ≤ k) (h1 : k < 18446744073709551616) : binOp .eql T (n64 x) (.int .u64 k) = pure (.bool (x == k.toNat)) := by
  rw [n64_lit k h0 h1, eql_n64 _ _ _ hx (by unfold B64; omega)]
@[go_sem] theorem gtr_n64i (x : Nat) (k : Int) (hx : x < B64) (h0 : 0 ≤ k) (h1 : k < 18446744073709551616) : binOp .gtr T (n64 x) (.int .u64 k) = pure (.bool (decide (k.toNat < x))) := by
  rw [n64_lit k h0 h1, n64, n64, gtr_w64]
  congr 2
  rw [Bool.eq_iff_iff]
  simp only [decide_eq_true_eq, UInt64.lt_iff_toNat_lt, tn64 hx]
  rw [tn64 (show k.toNat < B64 by unfold B64; omega)]
@[go_sem] theorem lss_n64 (x y : Nat) (hx : x < B64) (hy : y < B64) : binOp .lss T (n64 x) (n64 y) = pure (.bool (decide (x < y))) := by
  rw [n64, n64, lss_w64]
  congr 2
  rw [Bool.eq_iff_iff]
  simp only [decide_eq_true_eq, UInt64.lt_iff_toNat_lt, tn64 hx, tn64 hy]
end
section
variable {P : Program} (w : World) (S D : TypeId)
@[go_sem] theorem run_convert_n32_n64 (x : Nat) (hx : x < B32) (hs : (P.underlying S).isSome = true) (hd : P.underlying D = some (.int .u64)) : (convert S D (n32 x)).run P w = .ok (n64 x) w := by
  rw [n32, run_convert_w32_w64 _ _ _ _ hs hd, n64_w]
  rw [UInt32.toNat_toUInt64, tn32 hx, Nat.mod_eq_of_lt (show x < B64 by unfold B32 at hx; unfold B64; omega)]
@[go_sem] theorem run_convert_n64_n32 (x : Nat) (hs : (P.underlying S).isSome = true) (hd : P.underlying D = some (.int .u32)) : (convert S D (n64 x)).run P w = .ok (n32 x) w := by
  rw [n64, run_convert_w64_w32 _ _ _ _ hs hd, n32_w]
  rw [UInt64.toNat_toUInt32, UInt64.toNat_ofNat']
  unfold B32
  omega
@[go_sem] theorem run_convert_n64_n8 (x : Nat) (hs : (P.underlying S).isSome = true) (hd : P.underlying D = some (.int .u8)) : (convert S D (n64 x)).run P w = .ok (n8 x) w := by
  rw [n64, run_convert_w64_w8 _ _ _ _ hs hd, n8_w]
  rw [UInt64.toNat_toUInt8, UInt64.toNat_ofNat']
  omega
@[go_sem] theorem run_store_n64 (P : Program) (w : World) (a : Addr) (m : Mode) (x : Nat) : (store a (n64 x) m).run P w = stored P w a (n64 x) m := run_store P w a _ m rfl
@[go_sem] theorem run_store_n32 (P : Program) (w : World) (a : Addr) (m : Mode) (x : Nat) : (store a (n32 x) m).run P w = stored P w a (n32 x) m := run_store P w a _ m rfl
@[go_sem] theorem run_store_n8 (P : Program) (w : World) (a : Addr) (m : Mode) (x : Nat) : (store a (n8 x) m).run P w = stored P w a (n8 x) m := run_store P w a _ m rfl
end
end Go.Proofs.Ytmdjhbiiifnfiaa
