/-
  Words as numbers: 'n64 x' is the word of x modulo 2^64, 'n32 x' modulo 2^32, 'n8 x' modulo 2^8; what the operations do with them.
  field's inner functions: sums and products by limbs.
  field.Norm, Mul64, step, add.
  math/bits.Mul64, field.step, field.add.
  field.multiply.
  field: Of, Square, Is, Odd, Sub.
  shallotref05: From, To, prime, minus, Norm.
  shallotref05: Norm, high, folded.
  shallotref05: high, folded.
  shallotref05: Add, Mul, Sub.
  shallotref05: Sub.
-/
import Derived.Test.YtkibgdigcgakfaaMemP
import Derived.Test.YtkibgdigcgakfaaDigits
import Derived.LoopN
import Derived.Laws.Externs
import Derived.Lib.Mul64
import Derived.Shelf.Spec.BitsCarry
import Derived.Test.YtkibgdigcgakfaaCanP
namespace Go.Proofs.Ytkibgdigcgakfaa
open Go.RowKit

def B64 : Nat := 18446744073709551616
def B32 : Nat := 4294967296
theorem B64_pos : 0 < B64 := by decide
theorem B32_pos : 0 < B32 := by decide
def n64 (n : Nat) : Value := W64 (UInt64.ofNat n)
def n32 (n : Nat) : Value := W32 (UInt32.ofNat n)
def n8 (n : Nat) : Value := W8 (UInt8.ofNat n)
@[go_sem] theorem mod_B64 (n : Nat) : (n % B64 < B64) = True := eq_true (Nat.mod_lt _ B64_pos)
@[go_sem] theorem mod_B32 (n : Nat) : (n % B32 < B32) = True := eq_true (Nat.mod_lt _ B32_pos)
theorem n64_w {n : Nat} {x : UInt64} (h : x.toNat = n % B64) : W64 x = n64 n := by
  unfold B64 at h
  rw [n64]
  congr 1
  apply UInt64.toNat_inj.1
  rw [UInt64.toNat_ofNat', h]
theorem n32_w {n : Nat} {x : UInt32} (h : x.toNat = n % B32) : W32 x = n32 n := by
  unfold B32 at h
  rw [n32]
  congr 1
  apply UInt32.toNat_inj.1
  rw [UInt32.toNat_ofNat', h]
theorem n8_w {n : Nat} {x : UInt8} (h : x.toNat = n % 256) : W8 x = n8 n := by
  rw [n8]
  congr 1
  apply UInt8.toNat_inj.1
  rw [UInt8.toNat_ofNat', h]
theorem n64_of {n m : Nat} (h : n % B64 = m % B64) : n64 n = n64 m := by
  rw [n64]
  apply n64_w
  rw [UInt64.toNat_ofNat', ← h]
  rfl
theorem n32_of {n m : Nat} (h : n % B32 = m % B32) : n32 n = n32 m := by
  rw [n32]
  apply n32_w
  rw [UInt32.toNat_ofNat', ← h]
  rfl
theorem w64_n (x : UInt64) : W64 x = n64 x.toNat := by rw [n64, UInt64.ofNat_toNat]
theorem w32_n (x : UInt32) : W32 x = n32 x.toNat := by rw [n32, UInt32.ofNat_toNat]
theorem w8_n (x : UInt8) : W8 x = n8 x.toNat := by rw [n8, UInt8.ofNat_toNat]
theorem tn64 {n : Nat} (h : n < B64) : (UInt64.ofNat n).toNat = n := by
  unfold B64 at h
  rw [UInt64.toNat_ofNat']
  exact Nat.mod_eq_of_lt h
theorem tn32 {n : Nat} (h : n < B32) : (UInt32.ofNat n).toNat = n := by
  unfold B32 at h
  rw [UInt32.toNat_ofNat']
  exact Nat.mod_eq_of_lt h
theorem n64_eq {n : Nat} (h : n < B64) : n64 n = .int .u64 (n : Int) := by rw [n64, W64, tn64 h]
theorem n32_eq {n : Nat} (h : n < B32) : n32 n = .int .u32 (n : Int) := by rw [n32, W32, tn32 h]
theorem n64_lit (k : Int) (h0 : 0 ≤ k) (h1 : k < 18446744073709551616) : Value.int .u64 k = n64 k.toNat := by
  rw [n64_eq (by unfold B64; omega)]
  congr 1
  omega
theorem n32_lit (k : Int) (h0 : 0 ≤ k) (h1 : k < 4294967296) : Value.int .u32 k = n32 k.toNat := by
  rw [n32_eq (by unfold B32; omega)]
  congr 1
  omega
theorem n64_inj {n m : Nat} (hn : n < B64) (hm : m < B64) (h : n64 n = n64 m) : n = m := by
  rw [n64_eq hn, n64_eq hm] at h
  injection h with _ h
  omega
theorem n32_inj {n m : Nat} (hn : n < B32) (hm : m < B32) (h : n32 n = n32 m) : n = m := by
  rw [n32_eq hn, n32_eq hm] at h
  injection h with _ h
  omega
@[go_sem ↓] theorem cells_n64 (x : Nat) : (n64 x).cells = #[n64 x] := rfl
@[go_sem ↓] theorem cells_n32 (x : Nat) : (n32 x).cells = #[n32 x] := rfl
@[go_sem ↓] theorem cells_n8 (x : Nat) : (n8 x).cells = #[n8 x] := rfl
theorem n64_one (l : List Nat) : ∀ v ∈ l.map n64, v.oneCell' = true := by
  intro v hv
  obtain ⟨x, _, rfl⟩ := List.mem_map.1 hv
  rfl
theorem n32_one (l : List Nat) : ∀ v ∈ l.map n32, v.oneCell' = true := by
  intro v hv
  obtain ⟨x, _, rfl⟩ := List.mem_map.1 hv
  rfl
@[go_sem] theorem zero_B64 : (0 < B64) = True := eq_true B64_pos
@[go_sem] theorem one_B64 : (1 < B64) = True := eq_true (by decide)
@[go_sem] theorem zero_B32 : (0 < B32) = True := eq_true B32_pos
@[go_sem] theorem one_B32 : (1 < B32) = True := eq_true (by decide)
section
variable (T : TypeId) (ox oy : Operand)
@[go_sem] theorem eqGuard_n64 (op : BinOp) (x y : Nat) : eqGuard op T ox oy (n64 x) (n64 y) = pure () := eqGuard_int ..
@[go_sem] theorem eqGuard_n64i (op : BinOp) (x : Nat) (k : IntKind) (y : Int) : eqGuard op T ox oy (n64 x) (.int k y) = pure () := eqGuard_int ..
@[go_sem] theorem eqGuard_in64 (op : BinOp) (x : Nat) (k : IntKind) (y : Int) : eqGuard op T ox oy (.int k y) (n64 x) = pure () := eqGuard_int ..
@[go_sem] theorem eqGuard_n32 (op : BinOp) (x y : Nat) : eqGuard op T ox oy (n32 x) (n32 y) = pure () := eqGuard_int ..
@[go_sem] theorem eqGuard_n32i (op : BinOp) (x : Nat) (k : IntKind) (y : Int) : eqGuard op T ox oy (n32 x) (.int k y) = pure () := eqGuard_int ..
@[go_sem] theorem eqGuard_in32 (op : BinOp) (x : Nat) (k : IntKind) (y : Int) : eqGuard op T ox oy (.int k y) (n32 x) = pure () := eqGuard_int ..
@[go_sem] theorem add_n64 (x y : Nat) : binOp .add T (n64 x) (n64 y) = pure (n64 (x + y)) := by
  rw [n64, n64, add_w64, n64_w]
  rw [UInt64.toNat_add, UInt64.toNat_ofNat', UInt64.toNat_ofNat']
  unfold B64
  omega
@[go_sem] theorem add_n64i (x : Nat) (k : Int) (h0 : 0 ≤ k) (h1 : k < 18446744073709551616) : binOp .add T (n64 x) (.int .u64 k) = pure (n64 (x + k.toNat)) := by rw [n64_lit k h0 h1, add_n64]
@[go_sem] theorem add_in64 (x : Nat) (k : Int) (h0 : 0 ≤ k) (h1 : k < 18446744073709551616) : binOp .add T (.int .u64 k) (n64 x) = pure (n64 (k.toNat + x)) := by rw [n64_lit k h0 h1, add_n64]
@[go_sem] theorem sub_n64 (x y : Nat) (hx : x < B64) (hy : y ≤ x) : binOp .sub T (n64 x) (n64 y) = pure (n64 (x - y)) := by
  rw [n64, n64, sub_w64, n64_w]
  unfold B64 at hx
  rw [UInt64.toNat_sub, UInt64.toNat_ofNat', UInt64.toNat_ofNat']
  unfold B64
  omega
@[go_sem] theorem mul_n64 (x y : Nat) : binOp .mul T (n64 x) (n64 y) = pure (n64 (x * y)) := by
  rw [n64, n64, mul_w64, n64_w]
  rw [UInt64.toNat_mul, UInt64.toNat_ofNat', UInt64.toNat_ofNat']
  exact (Nat.mul_mod x y B64).symm
@[go_sem] theorem mul_n64i (x : Nat) (k : Int) (h0 : 0 ≤ k) (h1 : k < 18446744073709551616) : binOp .mul T (n64 x) (.int .u64 k) = pure (n64 (x * k.toNat)) := by rw [n64_lit k h0 h1, mul_n64]
@[go_sem] theorem mul_in64 (x : Nat) (k : Int) (h0 : 0 ≤ k) (h1 : k < 18446744073709551616) : binOp .mul T (.int .u64 k) (n64 x) = pure (n64 (k.toNat * x)) := by rw [n64_lit k h0 h1, mul_n64]
theorem mod_and_low (x : Nat) (k : Nat) : x &&& (2 ^ k - 1) = x % 2 ^ k := Nat.and_two_pow_sub_one_eq_mod x k
@[go_sem] theorem and_low63 (x : Nat) : binOp .and T (n64 x) (.int .u64 9223372036854775807) = pure (n64 (x % 9223372036854775808)) := by
  rw [n64, and_w64i _ _ _ (by omega) (by omega), n64_w]
  rw [UInt64.toNat_and, UInt64.toNat_ofNat', UInt64.toNat_ofNat']
  have := mod_and_low (x % 2 ^ 64) 63
  unfold B64
  simp only [Int.reduceToNat, Nat.reducePow, Nat.reduceSub, Nat.reduceMod] at this ⊢
  rw [this]
  omega
@[go_sem] theorem and_low32 (x : Nat) : binOp .and T (n64 x) (.int .u64 4294967295) = pure (n64 (x % 4294967296)) := by
  rw [n64, and_w64i _ _ _ (by omega) (by omega), n64_w]
  rw [UInt64.toNat_and, UInt64.toNat_ofNat', UInt64.toNat_ofNat']
  have := mod_and_low (x % 2 ^ 64) 32
  unfold B64
  simp only [Int.reduceToNat, Nat.reducePow, Nat.reduceSub, Nat.reduceMod] at this ⊢
  rw [this]
  omega
@[go_sem] theorem and_one64 (x : Nat) : binOp .and T (n64 x) (.int .u64 1) = pure (n64 (x % 2)) := by
  rw [n64, and_w64i _ _ _ (by omega) (by omega), n64_w]
  rw [UInt64.toNat_and, UInt64.toNat_ofNat', UInt64.toNat_ofNat']
  have := mod_and_low (x % 2 ^ 64) 1
  unfold B64
  simp only [Int.reduceToNat, Nat.reducePow, Nat.reduceSub, Nat.reduceMod] at this ⊢
  rw [this]
  omega
@[go_sem] theorem shr_n64 (x : Nat) (hx : x < B64) (yk : IntKind) (k : Int) (h0 : 0 ≤ k) : binOp .shr T (n64 x) (.int yk k) = pure (n64 (x / 2 ^ k.toNat)) := by
  rw [n64, shr_w64' _ _ _ _ h0, n64_w]
  rw [shr64]
  show (BitVec.toNat _) = _
  rw [BitVec.toNat_ushiftRight]
  show (UInt64.ofNat x).toNat >>> _ = _
  rw [tn64 hx, Nat.shiftRight_eq_div_pow]
  have : x / 2 ^ k.toNat < B64 := Nat.lt_of_le_of_lt (Nat.div_le_self _ _) hx
  rw [Nat.mod_eq_of_lt this]
@[go_sem] theorem rem_n64 (x : Nat) (hx : x < B64) (k : Int) (h0 : 0 < k) (h1 : k < 18446744073709551616) : binOp .rem T (n64 x) (.int .u64 k) = pure (n64 (x % k.toNat)) := by
  rw [n64, rem_w64i _ _ _ (by omega) h1 (by rw [UInt64.toNat_ofNat']; omega), n64_w]
  rw [UInt64.toNat_mod, tn64 hx, UInt64.toNat_ofNat', Nat.mod_eq_of_lt (show k.toNat < 2 ^ 64 by omega), Nat.mod_eq_of_lt (Nat.lt_of_le_of_lt (Nat.mod_le _ _) hx)]
@[go_sem] theorem rem_n64_32 (x : Nat) : binOp .rem T (n64 x) (.int .u64 4294967296) = pure (n64 (x % B32)) := by
  rw [n64_of (show x % B64 = (x % B64) % B64 by rw [Nat.mod_mod]), rem_n64 _ _ (Nat.mod_lt _ B64_pos) _ (by omega) (by omega)]
  congr 2
  unfold B64 B32
  simp only [Int.reduceToNat]
  omega
theorem eql_n64 (x y : Nat) (hx : x < B64) (hy : y < B64) : binOp .eql T (n64 x) (n64 y) = pure (.bool (x == y)) := by
  rw [n64, n64, eql_w64]
  congr 2
  rw [Bool.eq_iff_iff]
  simp only [beq_iff_eq, ← UInt64.toNat_inj, tn64 hx, tn64 hy]
@[go_sem] theorem eql_n64i (x : Nat) (k : Int) (hx : x < B64) (h0 : 0 ≤ k) (h1 : k < 18446744073709551616) : binOp .eql T (n64 x) (.int .u64 k) = pure (.bool (x == k.toNat)) := by
  rw [n64_lit k h0 h1, eql_n64 _ _ _ hx (by unfold B64; omega)]
@[go_sem] theorem gtr_n64i (x : Nat) (k : Int) (hx : x < B64) (h0 : 0 ≤ k) (h1 : k < 18446744073709551616) : binOp .gtr T (n64 x) (.int .u64 k) = pure (.bool (decide (k.toNat < x))) := by
  rw [n64_lit k h0 h1, n64, n64, gtr_w64]
  congr 2
  rw [Bool.eq_iff_iff]
  simp only [decide_eq_true_eq, UInt64.lt_iff_toNat_lt, tn64 hx]
  rw [tn64 (show k.toNat < B64 by unfold B64; omega)]
@[go_sem] theorem lss_n64 (x y : Nat) (hx : x < B64) (hy : y < B64) : binOp .lss T (n64 x) (n64 y) = pure (.bool (decide (x < y))) := by
  rw [n64, n64, lss_w64]
  congr 2
  rw [Bool.eq_iff_iff]
  simp only [decide_eq_true_eq, UInt64.lt_iff_toNat_lt, tn64 hx, tn64 hy]
end
section
variable {P : Program} (w : World) (S D : TypeId)
@[go_sem] theorem run_convert_n32_n64 (x : Nat) (hx : x < B32) (hs : (P.underlying S).isSome = true) (hd : P.underlying D = some (.int .u64)) : (convert S D (n32 x)).run P w = .ok (n64 x) w := by
  rw [n32, run_convert_w32_w64 _ _ _ _ hs hd, n64_w]
  rw [UInt32.toNat_toUInt64, tn32 hx, Nat.mod_eq_of_lt (show x < B64 by unfold B32 at hx; unfold B64; omega)]
@[go_sem] theorem run_convert_n64_n32 (x : Nat) (hs : (P.underlying S).isSome = true) (hd : P.underlying D = some (.int .u32)) : (convert S D (n64 x)).run P w = .ok (n32 x) w := by
  rw [n64, run_convert_w64_w32 _ _ _ _ hs hd, n32_w]
  rw [UInt64.toNat_toUInt32, UInt64.toNat_ofNat']
  unfold B32
  omega
@[go_sem] theorem run_convert_n64_n8 (x : Nat) (hs : (P.underlying S).isSome = true) (hd : P.underlying D = some (.int .u8)) : (convert S D (n64 x)).run P w = .ok (n8 x) w := by
  rw [n64, run_convert_w64_w8 _ _ _ _ hs hd, n8_w]
  rw [UInt64.toNat_toUInt8, UInt64.toNat_ofNat']
  omega
@[go_sem] theorem run_store_n64 (P : Program) (w : World) (a : Addr) (m : Mode) (x : Nat) : (store a (n64 x) m).run P w = stored P w a (n64 x) m := run_store P w a _ m rfl
@[go_sem] theorem run_store_n32 (P : Program) (w : World) (a : Addr) (m : Mode) (x : Nat) : (store a (n32 x) m).run P w = stored P w a (n32 x) m := run_store P w a _ m rfl
@[go_sem] theorem run_store_n8 (P : Program) (w : World) (a : Addr) (m : Mode) (x : Nat) : (store a (n8 x) m).run P w = stored P w a (n8 x) m := run_store P w a _ m rfl
end
end Go.Proofs.Ytkibgdigcgakfaa
namespace Go.Proofs.Ytkibgdigcgakfaa
open Go.RowKit

def EL (n : Nat) : List Value := (dig B64 4 n).map n64
abbrev E (n : Nat) : Value := .agg (EL n).toArray
theorem EL_length (n : Nat) : (EL n).length = 4 := by rw [EL, List.length_map, dig_length]
/-- Limb i. -/
def lim (n i : Nat) : Nat := n / B64 ^ i % B64
@[go_sem] theorem lim_lt (n i : Nat) : (lim n i < B64) = True := eq_true (Nat.mod_lt _ B64_pos)
theorem EL_get (n i : Nat) (h : i < 4) : (EL n)[i]? = some (n64 (lim n i)) := by rw [EL, List.getElem?_map, dig_get _ _ _ _ h]; rfl
@[go_sem] theorem EL_at (n i : Nat) (h : i < (EL n).length) : (EL n)[i] = n64 (lim n i) := by
  have := EL_get n i (by rw [EL_length] at h; exact h)
  rw [List.getElem?_eq_getElem h] at this
  exact Option.some.inj this

theorem run_add64n (x y c : Nat) (hx : x < B64) (hy : y < B64) (hc : c ≤ 1) (w : World) :
    (callFunc 39 #[n64 x, n64 y, n64 c]).run Try.prog w = .ok (.value (.tuple #[n64 ((x + y + c) % B64), n64 ((x + y + c) / B64)])) w := by
  rw [n64_eq hx, n64_eq hy, n64_eq (show c < B64 by unfold B64; omega), run_callFunc_extern Try.func39 (by kernel_rfl) (by kernel_rfl) (by kernel_rfl) (e := add64Entry) (by kernel_rfl), run_add64 _ _ _ (by omega) (by omega) (by omega) (by omega)]
  simp only [Result.andThen]
  rw [n64_eq (Nat.mod_lt _ B64_pos), n64_eq (show (x + y + c) / B64 < B64 by unfold B64 at *; omega)]
  congr 5 <;> (unfold B64; omega)

@[go_sem high] theorem run_add64 (x y c : Nat) (hx : x < B64) (hy : y < B64) (hc : c ≤ 1) (w : World) :
    (callFunc 39 #[n64 x, n64 y, n64 c]).run Try.prog w = .ok (.value (.tuple #[n64 ((x + y + c) % B64), n64 ((x + y + c) / B64)])) w := run_add64n x y c hx hy hc w
@[go_sem high] theorem run_add64_c (x y : Nat) (hx : x < B64) (hy : y < B64) (w : World) :
    (callFunc 39 #[n64 x, n64 y, .int .u64 0]).run Try.prog w = .ok (.value (.tuple #[n64 ((x + y) % B64), n64 ((x + y) / B64)])) w := run_add64n x y 0 hx hy (by omega) w
@[go_sem high] theorem run_add64_y (x c : Nat) (hx : x < B64) (hc : c ≤ 1) (w : World) :
    (callFunc 39 #[n64 x, .int .u64 0, n64 c]).run Try.prog w = .ok (.value (.tuple #[n64 ((x + c) % B64), n64 ((x + c) / B64)])) w := run_add64n x 0 c hx B64_pos hc w
theorem EL_one (n : Nat) : ∀ v ∈ EL n, v.oneCell' = true := n64_one _
theorem dig_small {B n : Nat} (h : n < B) (k : Nat) (hk : 0 < k) : n / B ^ k % B = 0 := by
  rw [Nat.div_eq_of_lt (Nat.lt_of_lt_of_le h (Nat.le_pow (by omega))), Nat.zero_mod]

set_option maxHeartbeats 1000000 in
theorem plus_any (a n : Nat) (hn : n < B64) (w : World) :
    Calls Try.prog 31 #[E a, n64 n] w fun e w' => e = .returned (.tuple #[E (a + n), n64 ((a % B64 ^ 4 + n) / B64 ^ 4)]) ∧ Later w w' := by
  have hlS := EL_length (a + n)
  have hlA := EL_length a
  have hb : Blk ((w.alloc (.cells (EL a).toArray 26)).alloc (.cells (List.replicate 4 (.int .u64 0)).toArray 26)) w.heap.size 26 (EL a) := (Blk.new _ _ _).later (later_alloc _ _)
  have hr : Blk ((w.alloc (.cells (EL a).toArray 26)).alloc (.cells (List.replicate 4 (.int .u64 0)).toArray 26)) (w.heap.size + 1) 26 (List.replicate 4 (.int .u64 0)) := Blk.new' _ _ _ (by simp)
  go_enter Try.func31, Try.ntmps31
  go_wp2_with (first
    | (refine wpList_store_in rfl rfl _ _ _ rfl _ _ _ _ hb rfl ?hl rfl (by kernel_rfl) ?_; (case hl => omega); intro v w1 hv hb1 ho1; simp [go_sem] at hv; subst hv))
  have e0 : (lim a 0 + n) % B64 = lim (a + n) 0 := by
    simp [lim]
  have e1 : (lim a 0 + n) / B64 = carr B64 a n 0 1 := by
    simp [carr, lim, Nat.mod_eq_of_lt hn]
  rw [e0, ← filled_zero (EL (a + n)) (EL a), filled_step _ _ _ _ (by omega) (by omega) (EL_get (a + n) 0 (by omega))] at hb1
  have HE := hid e1
  clear e0 e1
  have L1 : Later w w1 := ((later_alloc _ _).trans (later_alloc _ _)).only ho1 (Nat.le_refl _)
  have hr1 := hr.only ho1 (by omega)
  go_loopw [6, 7] (fun c i wr => ∃ k : Nat, 1 ≤ k ∧ k ≤ 4 ∧ i = .int .i64 k ∧ c = n64 (carr B64 a n 0 k) ∧ Blk wr w.heap.size 26 (filled (EL (a + n)) (EL a) k) ∧ Blk wr (w.heap.size + 1) 26 (List.replicate 4 (.int .u64 0)) ∧ Later w wr) (fun _ i _ => 4 - (intOf i).toNat)
  case atStart => exact ⟨1, by omega, by omega, rfl, by rw [HE.out], hb1, hr1, L1⟩
  case round =>
    clear hb hr hb1 hr1 L1 ho1 HE
    obtain ⟨k, hk1, hk4, rfl, rfl, hb, hr, L⟩ := hrel
    by_cases hlt : k < 4
    · have hc := carr_le B64_pos a n 0 k (by omega)
      have S0 := hid (sum_dig B64_pos a n 0 k)
      have S1 := hid (carr_succ B64_pos a n 0 k)
      have d0 := hb.cellD k (u := n64 (lim a k)) (by rw [filled_old _ _ _ _ (by omega) (Nat.le_refl _) (by omega)]; exact EL_get a k hlt)
      generalize carr B64 a n 0 k = c at *
      go_wp2_with (first
        | (refine wpList_store_in rfl rfl _ _ _ rfl _ _ _ _ hb rfl ?hl rfl (by kernel_rfl) ?_; (case hl => rw [filled_length _ _ _ (by omega)]; omega); intro v w2 hv hb2 ho2; simp [go_sem] at hv; subst hv))
      go_roundw
      case rel =>
        have z : n / B64 ^ k % B64 = 0 := dig_small hn k hk1
        have e0 := S0.out
        have e1 := S1.out
        rw [z] at e0 e1
        rw [filled_step _ _ _ _ (by omega) (by omega) (by rw [EL_get (a + n) k hlt, lim, lim, ← Nat.add_zero (a + n), ← e0, Nat.add_zero])] at hb2
        exact ⟨k + 1, by omega, by omega, by go_num, by rw [← e1]; rfl, hb2, hr.only ho2 (by omega), L.only ho2 (Nat.le_refl _)⟩
      case measure => simp [intOf]; omega
    · obtain rfl : k = 4 := by omega
      have hcE : carr B64 a n 0 4 = (a % B64 ^ 4 + n) / B64 ^ 4 := by
        rw [carr, Nat.mod_eq_of_lt (show n < B64 ^ 4 from Nat.lt_of_lt_of_le hn (Nat.le_pow (by omega)))]
        rfl
      rw [filled_all _ _ _ hlS hlA] at hb
      have HC := hid hcE
      clear hcE
      go_wp2_with (first
        | (refine wpList_load_agg rfl 26 _ rfl w.heap.size 0 (EL (a + n)) ?hc ?hx _ Try.underlying26 rfl ?hi ?_; (case hx => rfl); (case hi => rw [hlS]; kernel_rfl); (case hc => intro j v hv; rw [Nat.zero_add]; exact hb.cellD j hv))
        | (refine wpList_store_agg rfl rfl 26 _ _ rfl (w.heap.size + 1) 0 26 _ (EL (a + n)) hr ?hx ?hy ?hi ?hf ?h1 ?_; (case hx => rfl); (case hy => rfl); (case hi => rw [hlS]; kernel_rfl); (case hf => simp [hlS]); (case h1 => exact EL_one _); intro w9 hb9 ho9))
      rw [spliced_all _ _ (by simp [hlS])] at hb9
      exact bodyPost_ret (results_blk_tmp rfl _ _ _ _ (EL (a + n)) _ hb9 rfl Try.underlying26 rfl (by rw [hlS]; kernel_rfl)) rfl ⟨by rw [← HC.out]; rfl, L.only ho9 (by omega)⟩

/-! ### The prime -/
def P25 : Nat := 57896044618658097711785492504343953926634992332820282019728792003956564819949
def T255 : Nat := 57896044618658097711785492504343953926634992332820282019728792003956564819968
def T256 : Nat := 115792089237316195423570985008687907853269984665640564039457584007913129639936
theorem T256_eq : B64 ^ 4 = T256 := by decide
theorem P25_pos : 0 < P25 := by decide
/-- What Norm computes. -/
theorem norm_math (n : Nat) (hn : n < T256) : ∃ u, u = n % T255 + 19 * (n / T255) ∧ (u + 19 < T255 → u = n % P25) ∧ (T255 ≤ u + 19 → u + 19 < T256 ∧ u + 19 - T255 = n % P25) := by
  refine ⟨_, rfl, ?_, ?_⟩ <;> unfold T255 P25 at * <;> unfold T256 at * <;> omega
theorem lim3 (n : Nat) (hn : n < T256) : lim n 3 / 9223372036854775808 = n / T255 := by
  unfold lim B64 T255
  unfold T256 at hn
  omega
theorem EL_low (n : Nat) : (EL n).set 3 (n64 (lim n 3 % 9223372036854775808)) = EL (n % T255) := by
  have h0 : lim n 0 = lim (n % T255) 0 := by unfold lim T255 B64; omega
  have h1 : lim n 1 = lim (n % T255) 1 := by unfold lim T255 B64; omega
  have h2 : lim n 2 = lim (n % T255) 2 := by unfold lim T255 B64; omega
  have h3 : lim n 3 % 9223372036854775808 = lim (n % T255) 3 := by unfold lim T255 B64; omega
  have e : ∀ m, EL m = [n64 (lim m 0), n64 (lim m 1), n64 (lim m 2), n64 (lim m 3)] := by
    intro m
    apply List.ext_getElem (EL_length m)
    intro i hi1 hi2
    rw [EL_at]
    have : i = 0 ∨ i = 1 ∨ i = 2 ∨ i = 3 := by rw [EL_length] at hi1; omega
    rcases this with rfl | rfl | rfl | rfl <;> rfl
  rw [e, e, h0, h1, h2, h3]
  rfl

/-! ### Elements that are loaded and stored whole -/
theorem sizeE : (Try.prog.info? 26).map (·.size) = some 4 := by kernel_rfl
section
variable {ops : Array Oper} {rest : List Oper} {o : Oper} {a : Act} {w : World} {Q : Exit → Act → World → Prop}
theorem load_E (hgd : Region.wanted o (yielded ops a.tmps) = true) (x : Operand) (ho : o.op = .load 26 x) {g : Nat} {t : TypeId} {n : Nat} (hb : Blk w g t (EL n)) (hx : a.eval x = .pointer (some ⟨g, 0, none⟩))
    (h : wpList Try.prog ops Q rest (a.put o.dst (E n)) w) : wpList Try.prog ops Q (o :: rest) a w :=
  wpList_load_blk hgd _ x ho g t _ hb hx _ Try.underlying26 rfl 4 sizeE (EL_length n) h
theorem store_E (hgd : o.guard = none) (hd : o.dst = none) (x y : Operand) (ho : o.op = .store 26 x y) {g : Nat} {t : TypeId} {l : List Value} {n : Nat} (hg : Blk w g t l) (hx : a.eval x = .pointer (some ⟨g, 0, none⟩)) (hy : a.eval y = E n) (hl : l.length = 4)
    (h : ∀ w', Blk w' g t (EL n) → Only g w w' → wpList Try.prog ops Q rest a w') : wpList Try.prog ops Q (o :: rest) a w :=
  wpList_store_blk hgd hd _ x y ho g t l _ hg hx hy 4 sizeE (EL_length n) hl (EL_one n) h
theorem ret_E {fn : Func} {p : Tmp} (hf : fn.results = #[.cell p 26]) {tmps : Array Value} {g : Nat} {t : TypeId} {n : Nat} (hg : Blk w g t (EL n)) (hp : tmps.getD p undef = .pointer (some ⟨g, 0, none⟩)) :
    (results fn tmps).run Try.prog w = .ok (E n) w := results_blk hf tmps w g t _ _ hg hp Try.underlying26 rfl (by rw [EL_length]; exact sizeE)
theorem quiet_E {K : Act → Prop} (x : Operand) (ho : o.op = .load 26 x) {w0 : World} {g : Nat} {t : TypeId} {n : Nat} (hb : Blk w0 g t (EL n)) (hx : a.eval x = .pointer (some ⟨g, 0, none⟩)) (h : K (a.put o.dst (E n))) :
    o.quiet Try.prog a (fun w' => ∃ x, w' = grow w0 x) K :=
  quiet_load_agg _ x ho g 0 (EL n) (fun w' hw j v hv => by obtain ⟨y, rfl⟩ := hw; rw [Nat.zero_add]; exact (hb.later ⟨y, rfl⟩).cellD j hv) hx _ Try.underlying26 rfl (by rw [EL_length]; exact sizeE) h
end
end Go.Proofs.Ytkibgdigcgakfaa
namespace Go.Proofs.Ytkibgdigcgakfaa
open Go.RowKit

theorem plus_19 (a : Nat) (w : World) : Calls Try.prog 31 #[E a, .int .u64 19] w fun e w' => e = .returned (.tuple #[E (a + 19), n64 ((a % B64 ^ 4 + 19) / B64 ^ 4)]) ∧ Later w w' := plus_any a 19 (by decide) w
theorem four_zero : (List.replicate 4 (Value.int .u64 0)).length = 4 := rfl
set_option maxHeartbeats 1000000 in
theorem norm_any (n : Nat) (hn : n < T256) (w : World) :
    Calls Try.prog 9 #[E n] w fun e w' => e = .returned (E (n % P25)) ∧ Later w w' := by
  obtain ⟨u, hu, hu1, hu2⟩ := norm_math n hn
  have hl3 := lim3 n hn
  have hq : n / T255 ≤ 1 := by unfold T255; unfold T256 at hn; omega
  have hus : u < T256 := by unfold T255 at hu; unfold T256 at *; omega
  have hus' : u + 19 < T256 := by unfold T255 at hu; unfold T256 at *; omega
  have hlu := lim3 (u + 19) hus'
  have HQ := hid hl3
  have HU := hid hu
  have HL := hid hlu
  clear hl3 hu hlu
  have hlS := EL_length n
  have hb : Blk ((w.alloc (.cells (EL n).toArray 26)).alloc (.cells (List.replicate 4 (.int .u64 0)).toArray 26)) w.heap.size 26 (EL n) := (Blk.new _ _ _).later (later_alloc _ _)
  have hr : Blk ((w.alloc (.cells (EL n).toArray 26)).alloc (.cells (List.replicate 4 (.int .u64 0)).toArray 26)) (w.heap.size + 1) 26 (List.replicate 4 (.int .u64 0)) := Blk.new' _ _ _ (by simp)
  have hcs : u + 19 < T255 ∧ (u + 19) / T255 = 0 ∨ T255 ≤ u + 19 ∧ (u + 19) / T255 = 1 := by unfold T255; unfold T256 at hus'; omega
  rcases hcs with ⟨hlt, hz⟩ | ⟨hge, hz⟩
  · have hz' : lim (u + 19) 3 / 9223372036854775808 = 0 := HL.out.trans hz
    have hR := hid (hu1 hlt)
    clear hz hu1 hu2
    go_enter Try.func9, Try.ntmps9
    go_wp2_with (first
      | (refine wpList_store_in rfl rfl _ _ _ rfl _ _ _ _ hb rfl ?hl rfl (by kernel_rfl) ?_; (case hl => omega); intro v w1 hv hb1 ho1; simp [go_sem] at hv; subst hv
         rw [EL_low] at hb1
         have hr1 := hr.only ho1 (by omega)
         have L1 : Later w w1 := ((later_alloc _ _).trans (later_alloc _ _)).only ho1 (Nat.le_refl _)
         clear hb hr ho1)
      | (refine load_E rfl _ rfl hb1 rfl ?_)
      | (go_at_call 31; (with_reducible refine (plus_any (n % T255) _ ?hb19 _).mono ?_); (case hb19 => rw [HQ.out]; unfold B64; omega); rintro e w2 ⟨rfl, hl2⟩; rw [HQ.out, ← HU.out]
         replace hb1 := hb1.later hl2
         have hr2 := hr1.later hl2
         have L2 := L1.trans hl2
         clear hr1 L1 hl2)
      | (refine store_E rfl rfl _ _ rfl hb1 rfl rfl (EL_length _) ?_; intro w3 hb3 ho3
         have hr3 := hr2.only ho3 (by omega)
         have L3 := L2.only ho3 (Nat.le_refl _)
         clear hr2 L2 ho3 hb1)
      | (refine load_E rfl _ rfl hb3 rfl ?_)
      | (go_at_call 31; (with_reducible refine (plus_19 u _).mono ?_); rintro e w4 ⟨rfl, hl4⟩
         have hb4 := (hb3.later hl4).later (later_alloc _ (.cells (List.replicate 4 (.int .u64 0)).toArray 26))
         have hr4 := (hr3.later hl4).later (later_alloc _ (.cells (List.replicate 4 (.int .u64 0)).toArray 26))
         have L4 := (L3.trans hl4).alloc (.cells (List.replicate 4 (.int .u64 0)).toArray 26)
         have hs4 := hr3.lt
         have hs5 := hl4.size
         have hn4 : Blk (w4.alloc (.cells (List.replicate 4 (.int .u64 0)).toArray 26)) w4.heap.size 26 (List.replicate 4 (.int .u64 0)) := Blk.new _ _ _
         clear hr3 L3 hl4 hb3)
      | (refine store_E rfl rfl _ _ rfl hn4 rfl rfl rfl ?_; intro w5 hb5 ho5
         have hu5 := hb4.only ho5 (by omega)
         have hr5 := hr4.only ho5 (by omega)
         have L5 := L4.only ho5 (by omega)
         have d5 := hb5.cellD 3 (EL_get _ 3 (by omega))
         clear hr4 L4 ho5 hb4)
      | (refine load_E rfl _ rfl hu5 rfl ?_)
      | (refine store_E rfl rfl _ _ rfl hr5 rfl rfl rfl ?_; intro w6 hb6 ho6))
    exact bodyPost_ret (ret_E rfl hb6 rfl) rfl ⟨by rw [hR.out], L5.only ho6 (by omega)⟩
  · have hz' : lim (u + 19) 3 / 9223372036854775808 = 1 := HL.out.trans hz
    obtain ⟨_, hu3⟩ := hu2 hge
    have hm : (u + 19) % T255 = n % P25 := by rw [← hu3]; unfold T255 at *; unfold T256 at *; omega
    have hR := hid hm
    clear hz hu1 hu2 hu3 hm
    go_enter Try.func9, Try.ntmps9
    go_wp2_with (first
      | (refine wpList_store_in rfl rfl _ _ _ rfl _ _ _ _ hb rfl ?hl rfl (by kernel_rfl) ?_; (case hl => omega); intro v w1 hv hb1 ho1; simp [go_sem] at hv; subst hv
         rw [EL_low] at hb1
         have hr1 := hr.only ho1 (by omega)
         have L1 : Later w w1 := ((later_alloc _ _).trans (later_alloc _ _)).only ho1 (Nat.le_refl _)
         clear hb hr ho1)
      | (refine load_E rfl _ rfl hb1 rfl ?_)
      | (go_at_call 31; (with_reducible refine (plus_any (n % T255) _ ?hb19 _).mono ?_); (case hb19 => rw [HQ.out]; unfold B64; omega); rintro e w2 ⟨rfl, hl2⟩; rw [HQ.out, ← HU.out]
         replace hb1 := hb1.later hl2
         have hr2 := hr1.later hl2
         have L2 := L1.trans hl2
         clear hr1 L1 hl2)
      | (refine store_E rfl rfl _ _ rfl hb1 rfl rfl (EL_length _) ?_; intro w3 hb3 ho3
         have hr3 := hr2.only ho3 (by omega)
         have L3 := L2.only ho3 (Nat.le_refl _)
         clear hr2 L2 ho3 hb1)
      | (refine load_E rfl _ rfl hb3 rfl ?_)
      | (go_at_call 31; (with_reducible refine (plus_19 u _).mono ?_); rintro e w4 ⟨rfl, hl4⟩
         have hb4 := (hb3.later hl4).later (later_alloc _ (.cells (List.replicate 4 (.int .u64 0)).toArray 26))
         have hr4 := (hr3.later hl4).later (later_alloc _ (.cells (List.replicate 4 (.int .u64 0)).toArray 26))
         have L4 := (L3.trans hl4).alloc (.cells (List.replicate 4 (.int .u64 0)).toArray 26)
         have hs4 := hr3.lt
         have hs5 := hl4.size
         have hn4 : Blk (w4.alloc (.cells (List.replicate 4 (.int .u64 0)).toArray 26)) w4.heap.size 26 (List.replicate 4 (.int .u64 0)) := Blk.new _ _ _
         clear hr3 L3 hl4 hb3)
      | (refine store_E rfl rfl _ _ rfl hn4 rfl rfl rfl ?_; intro w5 hb5 ho5
         have hu5 := hb4.only ho5 (by omega)
         have hr5 := hr4.only ho5 (by omega)
         have L5 := L4.only ho5 (by omega)
         have d5 := hb5.cellD 3 (EL_get _ 3 (by omega))
         clear hr4 L4 ho5 hb4)
      | (refine wpList_store_in rfl rfl _ _ _ rfl _ _ _ _ hb5 rfl ?hl rfl (by kernel_rfl) ?_; (case hl => rw [EL_length]; omega); intro v w6 hv hb6 ho6; simp [go_sem] at hv; subst hv
         rw [EL_low, hR.out] at hb6
         have hr6 := hr5.only ho6 (by omega)
         have L6 := L5.only ho6 (by omega))
      | (refine load_E rfl _ rfl hb6 rfl ?_)
      | (refine store_E rfl rfl _ _ rfl hr6 rfl rfl rfl ?_; intro w7 hb7 ho7))
    exact bodyPost_ret (ret_E rfl hb7 rfl) rfl ⟨rfl, L6.only ho7 (by omega)⟩
end Go.Proofs.Ytkibgdigcgakfaa
namespace Go.Proofs.Ytkibgdigcgakfaa
open Go.RowKit

theorem ret_two {a a' b b' : Value} (h : a = a') (h' : b = b') : Ending.returned (.tuple #[a, b]) = .returned (.tuple #[a', b']) := by rw [h, h']
set_option maxHeartbeats 1000000 in
theorem mul64_any (x y : Nat) (hx : x < B64) (hy : y < B64) (w : World) :
    Calls Try.prog 45 #[n64 x, n64 y] w fun e w' => e = .returned (.tuple #[n64 (x * y / B64), n64 (x * y % B64)]) ∧ w = w' := by
  have hB : B64 = 18446744073709551616 := rfl
  obtain ⟨bd, bt, bw, hhi⟩ := Lib.mul64_hi x y hx hy
  rw [← hB] at hhi bd bt bw
  have HH := hid hhi
  clear hhi hB
  go_enter Try.func45, Try.ntmps45
  go_wp2
  go_ret2
  exact ⟨ret_two (congrArg n64 HH.out) (n64_of (Nat.mod_mod (x * y) B64).symm), rfl⟩
theorem step_math (p m c : Nat) : p / B64 + (p % B64 + m) / B64 + ((p + m) % B64 + c) / B64 = (p + m + c) / B64 := by
  unfold B64
  omega
set_option maxHeartbeats 1000000 in
theorem step_any (x y m c : Nat) (hx : x < B64) (hy : y < B64) (hm : m < B64) (hc : c < B64) (w : World) :
    Calls Try.prog 40 #[n64 x, n64 y, n64 m, n64 c] w fun e w' => e = .returned (.tuple #[n64 ((x * y + m + c) % B64), n64 ((x * y + m + c) / B64)]) ∧ w = w' := by
  have H2 := hid (step_math (x * y) m c)
  go_enter Try.func40, Try.ntmps40
  go_wp2_with (go_at_call 45; (with_reducible refine (mul64_any x y hx hy _).mono ?_); rintro e w' ⟨rfl, rfl⟩)
  go_ret2
  exact ⟨ret_two rfl (congrArg n64 H2.out), rfl⟩
set_option maxHeartbeats 1000000 in
theorem add_any' (a b : Nat) (hsum : a + b < T256) (w : World) :
    Calls Try.prog 28 #[E a, E b] w fun e w' => e = .returned (E ((a + b) % P25)) ∧ Later w w' := by
  have hlS := EL_length (a + b)
  have hlA := EL_length a
  go_enter Try.func28, Try.ntmps28
  go_wp2
  go_loopw [5, 7] (fun c i wr => ∃ k : Nat, k ≤ 4 ∧ i = .int .i64 k ∧ c = n64 (carr B64 a b 0 k) ∧ Blk wr w.heap.size 26 (filled (EL (a + b)) (EL a) k) ∧ Blk wr (w.heap.size + 1) 26 (EL b) ∧ Blk wr (w.heap.size + 1 + 1) 26 (List.replicate 4 (.int .u64 0)) ∧ Later w wr) (fun _ i _ => 4 - (intOf i).toNat)
  case atStart =>
    refine ⟨0, by omega, rfl, by rw [carr_zero]; rfl, ?_, ?_, Blk.new' _ _ (List.replicate 4 (Value.int .u64 0)) (by simp), ((later_alloc _ _).trans (later_alloc _ _)).trans (later_alloc _ _)⟩
    · rw [filled_zero]
      exact ((Blk.new _ _ _).later (later_alloc _ _)).later (later_alloc _ _)
    · exact (Blk.new' _ _ _ (by simp)).later (later_alloc _ _)
  case round =>
    obtain ⟨k, hk4, rfl, rfl, h1, h2, h3, L⟩ := hrel
    by_cases hlt : k < 4
    · have hc := carr_le B64_pos a b 0 k (by omega)
      have S0 := hid (sum_dig B64_pos a b 0 k)
      have S1 := hid (carr_succ B64_pos a b 0 k)
      have d0 := h1.cellD k (u := n64 (lim a k)) (by rw [filled_old _ _ _ _ (by omega) (Nat.le_refl _) (by omega)]; exact EL_get a k hlt)
      have d1 := h2.cellD k (EL_get b k hlt)
      generalize carr B64 a b 0 k = c at *
      go_wp2
      refine wp_region_parts [([0, 1, 2, 3, 4, 5, 6, 7], 8)] [9, 10, 11, 12] [13, 14] (by as_aux_lemma => kernel_rfl) (by as_aux_lemma => kernel_rfl) (by intro _ _ d _ _ h; cases d <;> exact h) ?_
      simp only [wpParts, pick, List.getElem?_cons_succ, List.getElem?_cons_zero, Option.toList_some, List.cons_append, List.nil_append]
      repeat (go_big_quiet_step (fail))
      refine wpQuiet_nil ?_
      go_wp2
      try refine ⟨by first | assumption | exact later_drew _ | exact later_alloc _ _ | exact Later.refl _, ?_⟩
      try simp only [wpParts, pick, List.getElem?_cons_succ, List.getElem?_cons_zero, Option.toList_some, List.cons_append, List.nil_append]
      repeat (go_big_quiet_step (fail))
      refine wpQuiet_nil ?_
      go_wp2_with (first
        | (refine wpList_store_in rfl rfl _ _ _ rfl _ _ _ _ h1.drew rfl ?hl rfl (by kernel_rfl) ?_; (case hl => rw [filled_length _ _ _ (by omega)]; omega); intro v w2 hv hb2 ho2; simp [go_sem] at hv; subst hv))
      go_roundw
      case rel =>
        rw [filled_step _ _ _ _ (by omega) (by omega) (by rw [EL_get (a + b) k hlt, lim, lim, lim, ← Nat.add_zero (a + b), ← S0.out])] at hb2
        exact ⟨k + 1, by omega, by go_num, by rw [← S1.out]; rfl, hb2, h2.drew.only ho2 (by omega), h3.drew.only ho2 (by omega), (L.trans (later_drew _)).only ho2 (Nat.le_refl _)⟩
      case measure => simp [intOf]; omega
    · obtain rfl : k = 4 := by omega
      rw [filled_all _ _ _ hlS hlA] at h1
      go_wp2_with (first
        | (refine load_E rfl _ rfl h1 rfl ?_)
        | (go_at_call 9; (with_reducible refine (norm_any (a + b) hsum _).mono ?_); rintro e w2 ⟨rfl, hl2⟩
           have h32 := h3.later hl2
           have L2 := L.trans hl2)
        | (refine store_E rfl rfl _ _ rfl h32 rfl rfl rfl ?_; intro w3 hb3 ho3))
      exact bodyPost_ret (ret_E rfl hb3 rfl) rfl ⟨rfl, L2.only ho3 (by omega)⟩
end Go.Proofs.Ytkibgdigcgakfaa
namespace Go.Proofs.Ytkibgdigcgakfaa
open Go.RowKit

/-! ### One row times a small number -/
def mcar (B x a b k : Nat) : Nat := (x * (a % B ^ k) + b % B ^ k) / B ^ k
theorem mcar_zero (B x a b : Nat) : mcar B x a b 0 = 0 := by simp [mcar, Nat.mod_one]
theorem mcar_succ {B : Nat} (hB : 0 < B) (x a b k : Nat) : (x * (a / B ^ k % B) + b / B ^ k % B + mcar B x a b k) / B = mcar B x a b (k + 1) := by
  have hp : 0 < B ^ k := Nat.pow_pos hB
  rw [mcar, mcar, mod_pow_succ, mod_pow_succ, Nat.pow_succ, ← Nat.div_div_eq_div_mul]
  congr 1
  have e : x * (a % B ^ k + B ^ k * (a / B ^ k % B)) + (b % B ^ k + B ^ k * (b / B ^ k % B)) = (x * (a % B ^ k) + b % B ^ k) + B ^ k * (x * (a / B ^ k % B) + b / B ^ k % B) := by
    rw [Nat.mul_add, Nat.mul_add, Nat.mul_left_comm x]
    omega
  rw [e, Nat.add_mul_div_left _ _ hp, Nat.add_comm]
theorem mdig {B : Nat} (hB : 0 < B) (x a b k : Nat) : (x * (a / B ^ k % B) + b / B ^ k % B + mcar B x a b k) % B = (x * a + b) / B ^ k % B := by
  have hp : 0 < B ^ k := Nat.pow_pos hB
  have ea := Nat.div_add_mod a (B ^ k)
  have eb := Nat.div_add_mod b (B ^ k)
  have e : x * a + b = (x * (a % B ^ k) + b % B ^ k) + B ^ k * (x * (a / B ^ k) + b / B ^ k) := by
    have : x * a = x * (a % B ^ k) + B ^ k * (x * (a / B ^ k)) := by
      rw [Nat.mul_left_comm, ← Nat.mul_add, Nat.add_comm, ea]
    rw [Nat.mul_add]
    omega
  rw [e, Nat.add_mul_div_left _ _ hp, ← mcar, Nat.add_comm (mcar B x a b k), Nat.add_mod, Nat.add_mod (x * (a / B ^ k) + b / B ^ k), Nat.add_mod (x * (a / B ^ k % B)), Nat.mul_mod_mod, Nat.mod_mod, ← Nat.add_mod (x * (a / B ^ k))]
theorem mcar_lt {B x : Nat} (hx : x < B) (a b k : Nat) : mcar B x a b k ≤ x := by
  have hp : 0 < B ^ k := Nat.pow_pos (by omega)
  rw [mcar]
  refine Nat.le_of_lt_succ (Nat.div_lt_of_lt_mul ?_)
  have h1 := Nat.mod_lt a hp
  have h2 := Nat.mod_lt b hp
  have h3 : x * (a % B ^ k) ≤ x * (B ^ k - 1) := Nat.mul_le_mul_left x (by omega)
  rw [Nat.mul_sub, Nat.mul_one] at h3
  have h4 : x ≤ x * B ^ k := Nat.le_mul_of_pos_right x hp
  rw [Nat.succ_eq_add_one, Nat.mul_add, Nat.mul_one, Nat.mul_comm (B ^ k)]
  omega
theorem mul_math (a b : Nat) (ha : a < T256) (hb : b < T256) (S c o c2 : Nat) (hS : S = 38 * (a * b / T256) + a * b % T256) (hc : c = S / T256) (ho : o = S % T256) (h2 : c2 = (o + 38 * c) / T256) :
    c ≤ 38 ∧ c2 ≤ 1 ∧ (o + 38 * c) % T256 + 38 * c2 < T256 ∧ ((o + 38 * c) % T256 + 38 * c2) % P25 = a * b % P25 := by
  have h : a * b ≤ (T256 - 1) * (T256 - 1) := Nat.mul_le_mul (by omega) (by omega)
  generalize a * b = X at *
  have h3 : X / T256 < T256 := by
    refine Nat.div_lt_of_lt_mul (Nat.lt_of_le_of_lt h ?_)
    decide
  have hd := Nat.div_add_mod X T256
  have hm := Nat.mod_lt X (show 0 < T256 by decide)
  generalize X / T256 = H at *
  generalize X % T256 = L at *
  unfold T256 P25 at *
  omega
/-- The wide product's limbs. -/
def WL (n : Nat) : List Value := (dig B64 8 n).map n64
theorem WL_length (n : Nat) : (WL n).length = 8 := by rw [WL, List.length_map, dig_length]
theorem WL_get (n i : Nat) (h : i < 8) : (WL n)[i]? = some (n64 (lim n i)) := by rw [WL, List.getElem?_map, dig_get _ _ _ _ h]; rfl
theorem prod_WL (a b : Nat) (ha : a < B64 ^ 4) (hb : b < B64 ^ 4) : (prodAt B64 (dig B64 4 a) (dig B64 4 b) 8 4).map n64 = WL (a * b) := by
  have hl := prodAt_length B64 (dig B64 4 a) (dig B64 4 b) 8 4
  have hlt := prodAt_lt B64_pos (dig B64 4 a) (dig B64 4 b) 8 (dig_lt B64_pos 4 a) (dig_lt B64_pos 4 b) 4
  have hv := prodAt_val (B := B64) (dig B64 4 a) (dig B64 4 b) 8 4 (by rw [dig_length]; omega) (by rw [dig_length]; omega)
  rw [List.take_of_length_le (by rw [dig_length]; omega), val_dig, val_dig, Nat.mod_eq_of_lt ha, Nat.mod_eq_of_lt hb] at hv
  have := dig_val _ hlt
  rw [hl, hv] at this
  rw [WL, this]
theorem lim_hi (n i : Nat) : lim n (i + 4) = lim (n / T256) i := by
  rw [lim, lim, ← T256_eq, Nat.div_div_eq_div_mul, ← Nat.pow_add, Nat.add_comm]
theorem lim_lo (n i : Nat) (h : i < 4) : lim n i = lim (n % T256) i := by
  rw [lim, lim, ← dig_getD B64 4 n i h, ← dig_getD B64 4 _ i h, ← T256_eq, dig_mod]
theorem set_n64 (l : List Nat) (i v : Nat) : (l.map n64).set i (n64 v) = (l.set i v).map n64 := by rw [List.map_set]
theorem get_n64 (l : List Nat) (i : Nat) (h : i < l.length) : (l.map n64)[i]? = some (n64 (l.getD i 0)) := by
  rw [List.getElem?_map, List.getD_eq_getElem?_getD, List.getElem?_eq_getElem h]
  rfl
theorem EL_cong {n m : Nat} (h : n % T256 = m % T256) : EL n = EL m := by
  rw [EL, EL, ← dig_mod, ← dig_mod (n := m), T256_eq, h]
theorem E_cong {n m : Nat} (h : n % T256 = m % T256) : E n = E m := by rw [E, E, EL_cong h]
theorem step_38 (x m c : Nat) (hx : x < B64) (hm : m < B64) (hc : c < B64) (w : World) :
    Calls Try.prog 40 #[n64 x, .int .u64 38, n64 m, n64 c] w fun e w' => e = .returned (.tuple #[n64 ((x * 38 + m + c) % B64), n64 ((x * 38 + m + c) / B64)]) ∧ w = w' := step_any x 38 m c hx (by decide) hm hc w
theorem prodAt_next (B : Nat) (xs ys : List Nat) (n i x m : Nat) (hx : xs.getD i 0 = x) (hm : ys.length = m) : prodAt B xs ys n (i + 1) = (rowAt B x ys (prodAt B xs ys n i) i m).1.set (i + m) (rowAt B x ys (prodAt B xs ys n i) i m).2 := by
  subst hx
  subst hm
  rfl
theorem rowAt_next (B x : Nat) (ys ws : List Nat) (i j y : Nat) (hy : ys.getD j 0 = y) : rowAt B x ys ws i (j + 1) = ((rowAt B x ys ws i j).1.set (i + j) ((x * y + (rowAt B x ys ws i j).1.getD (i + j) 0 + (rowAt B x ys ws i j).2) % B),
      (x * y + (rowAt B x ys ws i j).1.getD (i + j) 0 + (rowAt B x ys ws i j).2) / B) := by
  subst hy
  rfl
set_option maxRecDepth 100000 in
set_option maxHeartbeats 4000000 in
theorem multiply_any (a b : Nat) (ha : a < T256) (hb : b < T256) (w : World) :
    Calls Try.prog 29 #[E a, E b] w fun e w' => e = .returned (E (a * b % P25)) ∧ Later w w' := by
  have HP := hid (prod_WL a b (by rw [T256_eq]; exact ha) (by rw [T256_eq]; exact hb))
  have hla := fun i (h : i < 4) => dig_getD B64 4 a i h
  have hlb := fun i (h : i < 4) => dig_getD B64 4 b i h
  have hal := dig_lt B64_pos 4 a
  have hbl := dig_lt B64_pos 4 b
  have hAl := dig_length B64 4 a
  have hBl := dig_length B64 4 b
  have ha0 : Blk (((w.alloc (.cells (EL a).toArray 26)).alloc (.cells (EL b).toArray 26))) w.heap.size 26 (EL a) := (Blk.new _ _ _).later (later_alloc _ _)
  have hb0 : Blk (((w.alloc (.cells (EL a).toArray 26)).alloc (.cells (EL b).toArray 26))) (w.heap.size + 1) 26 (EL b) := (Blk.new' _ _ _ (by simp))
  generalize hdA : dig B64 4 a = dA at *
  generalize hdB : dig B64 4 b = dB at *
  have HA := hid hdA
  have HB := hid hdB
  have HLA := hid hla
  have HLB := hid hlb
  have HAl := hid hAl
  have HBl := hid hBl
  clear hdA hdB hla hlb hAl hBl
  go_enter Try.func29, Try.ntmps29
  go_wp2
  go_loopw [12] (fun i wr => ∃ k : Nat, k ≤ 4 ∧ i = .int .i64 k ∧ Blk wr w.heap.size 26 (EL a) ∧ Blk wr (w.heap.size + 1) 26 (EL b) ∧ Blk wr (w.heap.size + 1 + 1) 26 (List.replicate 4 (.int .u64 0)) ∧ Blk wr (w.heap.size + 1 + 1 + 1) 80 ((prodAt B64 dA dB 8 k).map n64) ∧ Later w wr) (fun i _ => 4 - (intOf i).toNat)
  case atStart =>
    have L0 : Later w ((w.alloc (.cells (EL a).toArray 26)).alloc (.cells (EL b).toArray 26)) := (later_alloc _ _).trans (later_alloc _ _)
    exact ⟨0, by omega, rfl, (ha0.later (later_alloc _ _)).later (later_alloc _ _), (hb0.later (later_alloc _ _)).later (later_alloc _ _), (Blk.new' _ _ (List.replicate 4 (Value.int .u64 0)) (by simp)).later (later_alloc _ _), Blk.new' _ _ (List.replicate 8 (Value.int .u64 0)) (by simp), (L0.alloc _).alloc _⟩
  case round =>
    clear ha0 hb0
    obtain ⟨k, hk4, rfl, h1, h2, h3, h4, L⟩ := hrel
    by_cases hlt : k < 4
    · have hpl := prodAt_length B64 dA dB 8 k
      have hpt := prodAt_lt B64_pos dA dB 8 hal hbl k
      have da := h1.cellD k (EL_get a k hlt)
      have HS := hid (prodAt_next B64 dA dB 8 k (lim a k) 4 (HLA.out k hlt) HBl.out)
      generalize prodAt B64 dA dB 8 k = ws at *
      have HPL := hid hpl
      clear hpl
      have hkb : decide ((k : Int) < 4) = true := by simp; omega
      go_wp2
      go_loopw [7, 15] (fun c i wr => ∃ j : Nat, j ≤ 4 ∧ i = .int .i64 j ∧ c = n64 (rowAt B64 (lim a k) dB ws k j).2 ∧ Blk wr w.heap.size 26 (EL a) ∧ Blk wr (w.heap.size + 1) 26 (EL b) ∧ Blk wr (w.heap.size + 1 + 1) 26 (List.replicate 4 (.int .u64 0)) ∧ Blk wr (w.heap.size + 1 + 1 + 1) 80 ((rowAt B64 (lim a k) dB ws k j).1.map n64) ∧ Later w wr) (fun _ i _ => 4 - (intOf i).toNat)
      case atStart => exact ⟨0, by omega, rfl, rfl, h1, h2, h3, h4, L⟩
      case round =>
        clear h1 h2 h3 h4 L da
        obtain ⟨j, hj4, rfl, rfl, h1, h2, h3, h4, L⟩ := hrel
        have hrl := rowAt_length B64 (lim a k) dB ws k j
        obtain ⟨hrt, hct⟩ := rowAt_lt (B := B64) (lim a k) dB ws k (Nat.mod_lt _ B64_pos) hbl hpt j
        by_cases hlj : j < 4
        · have da := h1.cellD k (EL_get a k hlt)
          have db := h2.cellD j (EL_get b j hlj)
          have dw := h4.cellD (k + j) (get_n64 _ _ (by rw [hrl, HPL.out]; omega))
          have hwl := getD_lt B64_pos hrt (k + j)
          have HR := hid (rowAt_next B64 (lim a k) dB ws k j (lim b j) (HLB.out j hlj))
          generalize (rowAt B64 (lim a k) dB ws k j).2 = c at *
          generalize (rowAt B64 (lim a k) dB ws k j).1.getD (k + j) 0 = v at *
          generalize (rowAt B64 (lim a k) dB ws k j).1 = vs at *
          have HRL := hid hrl
          clear hrl
          have hkj : IntKind.i64.wrap ((k : Int) + (j : Int)) = ((k + j : Nat) : Int) := by rw [IntKind.wrap_i64]; omega
          go_wp2_with fail
          refine wp_region_parts [([0, 1, 2, 3, 4, 5, 6, 7, 8, 9, 10, 11, 12, 13, 14], 15)] [16, 17, 18, 19] [20, 21] (by as_aux_lemma => kernel_rfl) (by as_aux_lemma => kernel_rfl) (by intro _ _ d _ _ h; cases d <;> exact h) ?_
          simp only [wpParts, pick, List.getElem?_cons_succ, List.getElem?_cons_zero, Option.toList_some, List.cons_append, List.nil_append]
          repeat (go_big_quiet_step (fail))
          refine wpQuiet_nil ?_
          go_wp2_with fail
          (with_reducible refine (step_any (lim a k) (lim b j) v c (Nat.mod_lt _ B64_pos) (Nat.mod_lt _ B64_pos) hwl hct _).mono ?_)
          rintro e w2 ⟨rfl, rfl⟩
          go_wp2_with fail
          try refine ⟨by first | assumption | exact later_drew _ | exact later_alloc _ _ | exact Later.refl _, ?_⟩
          try simp only [wpParts, pick, List.getElem?_cons_succ, List.getElem?_cons_zero, Option.toList_some, List.cons_append, List.nil_append]
          repeat (go_big_quiet_step (fail))
          refine wpQuiet_nil ?_
          go_wp2_with (first
            | (refine wpList_store_in rfl rfl _ _ _ rfl _ _ _ _ h4.drew rfl ?hl rfl (by kernel_rfl) ?_; (case hl => rw [List.length_map, HRL.out, HPL.out]; omega); intro v w2 hv hb2 ho2; simp [go_sem] at hv; subst hv)
            | fail)
          go_roundw
          case rel =>
            rw [set_n64] at hb2
            exact ⟨j + 1, by omega, by go_num, by rw [HR.out], h1.drew.only ho2 (by omega), h2.drew.only ho2 (by omega), h3.drew.only ho2 (by omega), by rw [HR.out]; exact hb2, (L.trans (later_drew _)).only ho2 (by omega)⟩
          case measure => simp [intOf]; omega
        · obtain rfl : j = 4 := by omega
          generalize hc4 : (rowAt B64 (lim a k) dB ws k 4).2 = c at *
          generalize hv4 : (rowAt B64 (lim a k) dB ws k 4).1 = vs at *
          have HRL := hid hrl
          have HC4 := hid hc4
          have HV4 := hid hv4
          clear hrl hc4 hv4
          go_wp2_with (first
            | (refine wpList_store_in rfl rfl _ _ _ rfl _ _ _ _ h4 rfl ?hl rfl (by kernel_rfl) ?_; (case hl => rw [List.length_map, HRL.out, HPL.out]; omega); intro v w2 hv hb2 ho2; simp [go_sem] at hv; subst hv)
            | fail)
          go_roundw
          case rel =>
            rw [set_n64] at hb2
            exact ⟨k + 1, by omega, by go_num, h1.only ho2 (by omega), h2.only ho2 (by omega), h3.only ho2 (by omega), by rw [HS.out]; exact hb2, L.only ho2 (by omega)⟩
          case measure => simp [intOf]; omega
    · rw [show k = 4 by omega, HP.out] at h4
      have hkf : decide ((k : Int) < 4) = false := by simp; omega
      have hX : a * b / T256 < T256 := by
        refine Nat.div_lt_of_lt_mul (Nat.lt_of_le_of_lt (Nat.mul_le_mul (Nat.le_sub_one_of_lt ha) (Nat.le_sub_one_of_lt hb)) ?_)
        decide
      obtain ⟨hm1, hm2, hm3, hm4⟩ := mul_math a b ha hb _ _ _ _ rfl rfl rfl rfl
      have hlo := fun i h => lim_lo (a * b) i h
      have hhi := fun i => lim_hi (a * b) i
      have hlm := Nat.mod_lt (a * b) (show 0 < T256 by decide)
      have HR := hid hm4
      clear hm4
      generalize hRR : a * b % P25 = R at *
      have HRR := hid ((congrArg (· % P25) (Nat.mul_comm b a)).trans hRR)
      clear hRR
      generalize hXX : a * b = X at *
      clear hXX HP HA HB HLA HLB HAl HBl hal hbl ha hb
      generalize X / T256 = H at *
      generalize X % T256 = Lo at *
      have HLO := hid hlo
      have HHI := hid hhi
      clear hlo hhi
      have hSl := EL_length (38 * H + Lo)
      go_wp2_with fail
      have hn0 : Blk (wr.alloc (.cells (List.replicate 4 (Value.int .u64 0)).toArray 26)) wr.heap.size 26 (List.replicate 4 (.int .u64 0)) := Blk.new _ _ _
      have hsz := h4.lt
      go_loopw [10, 44] (fun c i wx => ∃ k : Nat, k ≤ 4 ∧ i = .int .i64 k ∧ c = n64 (mcar B64 38 H Lo k) ∧ Blk wx wr.heap.size 26 (filled (EL (38 * H + Lo)) (List.replicate 4 (.int .u64 0)) k) ∧ Blk wx (w.heap.size + 1 + 1) 26 (List.replicate 4 (.int .u64 0)) ∧ Blk wx (w.heap.size + 1 + 1 + 1) 80 (WL X) ∧ Later w wx) (fun _ i _ => 4 - (intOf i).toNat)
      case atStart => exact ⟨0, by omega, rfl, by rw [mcar_zero]; rfl, by rw [filled_zero]; exact hn0, h3.later (later_alloc _ _), h4.later (later_alloc _ _), L.trans (later_alloc _ _)⟩
      case round =>
        clear h1 h2 h3 h4 L hn0
        obtain ⟨k, hk4, rfl, rfl, h1, h3, h4, L⟩ := hrel
        by_cases hlt : k < 4
        · have hc := mcar_lt (show 38 < B64 by decide) H Lo k
          have S0 := hid (mdig B64_pos 38 H Lo k)
          have S1 := hid (mcar_succ B64_pos 38 H Lo k)
          have d0 := h4.cellD k (WL_get X k (by omega))
          have d1 := h4.cellD (k + 4) (WL_get X (k + 4) (by omega))
          rw [HLO.out k hlt] at d0
          rw [HHI.out k] at d1
          generalize mcar B64 38 H Lo k = c at *
          have hkj : IntKind.i64.wrap ((k : Int) + 4) = ((k + 4 : Nat) : Int) := by rw [IntKind.wrap_i64]; omega
          go_wp2_with fail
          refine wp_region_parts [([0, 1, 2, 3, 4, 5, 6, 7, 8], 9)] [10, 11, 12, 13] [14, 15] (by as_aux_lemma => kernel_rfl) (by as_aux_lemma => kernel_rfl) (by intro _ _ d _ _ h; cases d <;> exact h) ?_
          simp only [wpParts, pick, List.getElem?_cons_succ, List.getElem?_cons_zero, Option.toList_some, List.cons_append, List.nil_append]
          repeat (go_big_quiet_step (fail))
          refine wpQuiet_nil ?_
          go_wp2_with fail
          (with_reducible refine (step_38 (lim H k) (lim Lo k) c (Nat.mod_lt _ B64_pos) (Nat.mod_lt _ B64_pos) (Nat.lt_of_le_of_lt hc (by decide)) _).mono ?_)
          rintro e w2 ⟨rfl, rfl⟩
          go_wp2_with fail
          try refine ⟨by first | assumption | exact later_drew _ | exact later_alloc _ _ | exact Later.refl _, ?_⟩
          try simp only [wpParts, pick, List.getElem?_cons_succ, List.getElem?_cons_zero, Option.toList_some, List.cons_append, List.nil_append]
          repeat (go_big_quiet_step (fail))
          refine wpQuiet_nil ?_
          go_wp2_with (first
            | (refine wpList_store_in rfl rfl _ _ _ rfl _ _ _ _ h1.drew rfl ?hl rfl (by kernel_rfl) ?_; (case hl => rw [filled_length _ _ _ (by rw [hSl]; rfl)]; exact hlt); intro v w2 hv hb2 ho2; simp [go_sem] at hv; subst hv)
            | fail)
          go_roundw
          case rel =>
            have e0 := S0.out
            have e1 := S1.out
            rw [Nat.mul_comm 38] at e0 e1
            rw [filled_step _ _ _ _ (by rw [hSl]; rfl) hlt (by rw [EL_get _ k hlt, lim, lim, lim, ← e0])] at hb2
            exact ⟨k + 1, by omega, by go_num, by rw [← e1]; rfl, hb2, h3.drew.only ho2 (by omega), h4.drew.only ho2 (by omega), (L.trans (later_drew _)).only ho2 (by omega)⟩
          case measure => simp [intOf]; omega
        · obtain rfl : k = 4 := by omega
          have hc4 : mcar B64 38 H Lo 4 = (38 * H + Lo) / T256 := by rw [mcar, T256_eq, Nat.mod_eq_of_lt hX, Nat.mod_eq_of_lt hlm]
          rw [filled_all _ _ _ hSl rfl] at h1
          have HC4 := hid hc4
          clear hc4
          generalize hS : 38 * H + Lo = S at *
          have e2 : (S % B64 ^ 4 + 38 * (S / T256)) / B64 ^ 4 = (S % T256 + 38 * (S / T256)) / T256 := by rw [T256_eq]
          have HE := hid e2
          clear e2
          have hp1 := plus_any S (38 * (S / T256)) (by unfold B64; omega)
          rw [HE.out] at hp1
          generalize hcc : (S % T256 + 38 * (S / T256)) / T256 = c2 at *
          have hp2 := plus_any (S + 38 * (S / T256)) (38 * c2) (by unfold B64; omega)
          have hEq : E (S + 38 * (S / T256) + 38 * c2) = E ((S % T256 + 38 * (S / T256)) % T256 + 38 * c2) := E_cong (by unfold T256; omega)
          have hn := norm_any _ hm3
          rw [HR.out] at hn
          have HQ := hid hEq
          have HN := hid hn
          have HP1 := hid hp1
          have HP2 := hid hp2
          clear hEq hn hp1 hp2
          generalize (S % T256 + 38 * (S / T256)) % T256 + 38 * c2 = fin at *
          generalize hcd : S / T256 = c1 at *
          have hcd' : n64 (mcar B64 38 H Lo 4) = n64 c1 := by rw [HC4.out]
          generalize mcar B64 38 H Lo 4 = c0 at *
          obtain rfl : c0 = c1 := HC4.out
          clear hcd' HC4 HE
          go_wp2_with (first
            | (refine load_E rfl _ rfl h1 rfl ?_)
            | (go_at_call 31; (with_reducible refine (HP1.out _).mono ?_); rintro e w2 ⟨rfl, hl2⟩
               have h12 := h1.later hl2
               have h32 := h3.later hl2
               have L2 := L.trans hl2
               clear HP1)
            | (refine store_E rfl rfl _ _ rfl h12 rfl rfl (EL_length _) ?_; intro w3 hb3 ho3
               have h33 := h32.only ho3 (by omega)
               have L3 := L2.only ho3 (by omega)
               clear h32 h12 L2)
            | (refine load_E rfl _ rfl hb3 rfl ?_)
            | (go_at_call 31; (with_reducible refine (HP2.out _).mono ?_); rintro e w4 ⟨rfl, hl4⟩
               have h14 := hb3.later hl4
               have h34 := h33.later hl4
               have L4 := L3.trans hl4
               rw [HQ.out]
               clear HP2)
            | (refine store_E rfl rfl _ _ rfl h14 rfl rfl (EL_length _) ?_; intro w5 hb5 ho5
               have h35 := h34.only ho5 (by omega)
               have L5 := L4.only ho5 (by omega)
               clear h34 h14 L4)
            | (refine load_E rfl _ rfl hb5 rfl ?_)
            | (go_at_call 9; (with_reducible refine (HN.out _).mono ?_); rintro e w6 ⟨rfl, hl6⟩
               have h36 := h35.later hl6
               have L6 := L5.trans hl6)
            | (refine store_E rfl rfl _ _ rfl h36 rfl rfl rfl ?_; intro w7 hb7 ho7)
            | fail)
          exact bodyPost_ret (ret_E rfl hb7 rfl) rfl ⟨by rw [Nat.mul_comm a b]; exact congrArg (fun t => Ending.returned (E t)) HRR.out.symm, L6.only ho7 (by omega)⟩
end Go.Proofs.Ytkibgdigcgakfaa
namespace Go.Proofs.Ytkibgdigcgakfaa
open Go.RowKit

theorem EL_zero : EL 0 = List.replicate 4 (.int .u64 0) := by rfl
theorem EL_small {n : Nat} (h : n < B64) : EL n = [n64 n, .int .u64 0, .int .u64 0, .int .u64 0] := by
  have e : ∀ k, 0 < k → n / B64 ^ k % B64 = 0 := fun k hk => dig_small h k hk
  have e1 : dig B64 4 n = [n / B64 ^ 0 % B64, n / B64 ^ 1 % B64, n / B64 ^ 2 % B64, n / B64 ^ 3 % B64] := by
    rw [dig_snoc, dig_snoc, dig_snoc, dig_snoc]
    rfl
  rw [EL, e1, e 1 (by omega), e 2 (by omega), e 3 (by omega), Nat.pow_zero, Nat.div_one, Nat.mod_eq_of_lt h]
  rfl
theorem small_T256 {n : Nat} (h : n < B64) : n < T256 := Nat.lt_trans h (by decide)
@[go_sem] theorem mod_P25_T (n : Nat) : (n % P25 < T256) = True := eq_true (Nat.lt_trans (Nat.mod_lt _ P25_pos) (by decide))
@[go_sem] theorem mod_P25_P (n : Nat) : (n % P25 < P25) = True := eq_true (Nat.mod_lt _ P25_pos)
def ofs (l : List Nat) : List UInt64 := l.map UInt64.ofNat
theorem EL_ofs (n : Nat) : EL n = (ofs (dig B64 4 n)).map W64 := by rw [EL, ofs, List.map_map]; rfl
theorem ofs_inj {l m : List Nat} (hl : ∀ x ∈ l, x < B64) (hm : ∀ x ∈ m, x < B64) (h : ofs l = ofs m) : l = m := by
  have e : ∀ l : List Nat, (∀ x ∈ l, x < B64) → (ofs l).map UInt64.toNat = l := by
    intro l hl
    rw [ofs, List.map_map]
    conv => rhs; rw [← List.map_id l]
    apply List.map_congr_left
    intro x hx
    exact tn64 (hl x hx)
  rw [← e l hl, ← e m hm, h]
theorem ofs_beq {x y : Nat} (hx : x < T256) (hy : y < T256) : (ofs (dig B64 4 x) == ofs (dig B64 4 y)) = (x == y) := by
  rw [Bool.eq_iff_iff, beq_iff_eq, beq_iff_eq]
  refine ⟨fun h => ?_, fun h => by rw [h]⟩
  have := ofs_inj (dig_lt B64_pos 4 x) (dig_lt B64_pos 4 y) h
  exact dig_inj (k := 4) (B := B64) (by rw [T256_eq]; exact hx) (by rw [T256_eq]; exact hy) this
theorem size64 : (Try.prog.info? 22).map (·.size) = some 1 := by kernel_rfl
theorem eqg_E : Try.prog.eqGuardType Try.prog.depth 26 = false := by kernel_rfl
@[go_sem high] theorem eqGuard_E (op : BinOp) (x y : Operand) (xs ys : Array Value) (w : World) : (eqGuard op 26 x y (.agg xs) (.agg ys)).run Try.prog w = .ok () w := run_eqGuard_agg w op _ x y xs ys eqg_E
@[go_sem high] theorem run_eql_E (x y : Nat) (hx : x < T256) (hy : y < T256) (w : World) : (binOp .eql 26 (E x) (E y)).run Try.prog w = .ok (.bool (x == y)) w := by
  rw [run_eql_struct, EL_ofs, EL_ofs, run_equalIn_arr w 0 W64 9998 26 22 4 Try.underlying26 size64 Try.underlying22 rfl (heq_w64 _ _ Try.underlying22) _ _ (by rw [ofs, List.length_map, dig_length]) (by rw [ofs, List.length_map, dig_length]), ofs_beq hx hy]
  rfl
@[go_sem high] theorem run_neq_E (x y : Nat) (hx : x < T256) (hy : y < T256) (w : World) : (binOp .neq 26 (E x) (E y)).run Try.prog w = .ok (.bool (x != y)) w := by
  rw [run_neq_struct, EL_ofs, EL_ofs, run_equalIn_arr w 0 W64 9998 26 22 4 Try.underlying26 size64 Try.underlying22 rfl (heq_w64 _ _ Try.underlying22) _ _ (by rw [ofs, List.length_map, dig_length]) (by rw [ofs, List.length_map, dig_length]), ofs_beq hx hy]
  rfl
theorem eqg_4 : Try.prog.eqGuardType Try.prog.depth 23 = false := by kernel_rfl
@[go_sem high] theorem eqGuard_4 (op : BinOp) (x y : Operand) (xs ys : Array Value) (w : World) : (eqGuard op 23 x y (.agg xs) (.agg ys)).run Try.prog w = .ok () w := run_eqGuard_agg w op _ x y xs ys eqg_4
@[go_sem high] theorem run_eql_4 (x y : Nat) (hx : x < T256) (hy : y < T256) (w : World) : (binOp .eql 23 (E x) (E y)).run Try.prog w = .ok (.bool (x == y)) w := by
  rw [run_eql_struct, EL_ofs, EL_ofs, run_equalIn_arr w 0 W64 9998 23 22 4 Try.underlying23 size64 Try.underlying22 rfl (heq_w64 _ _ Try.underlying22) _ _ (by rw [ofs, List.length_map, dig_length]) (by rw [ofs, List.length_map, dig_length]), ofs_beq hx hy]
  rfl

set_option maxHeartbeats 1000000 in
theorem of_any (n : Nat) (hn : n < B64) (w : World) :
    Calls Try.prog 13 #[n64 n] w fun e w' => e = .returned (E n) ∧ Later w w' := by
  have hs := hid (EL_small hn)
  go_enter Try.func13, Try.ntmps13
  go_wp2_with (first
    | (refine wpList_build_is rfl 26 _ rfl [n64 n, .int .u64 0, .int .u64 0, .int .u64 0] ?hb ?_; (case hb => kernel_rfl); rw [← hs.out])
    | (refine store_E rfl rfl _ _ rfl (Blk.new w _ (List.replicate 4 (.int .u64 0))) rfl rfl rfl ?_; intro w3 hb3 ho3))
  exact bodyPost_ret (ret_E rfl hb3 rfl) rfl ⟨rfl, (later_alloc _ _).only ho3 (by omega)⟩
set_option maxHeartbeats 1000000 in
theorem square_any (n : Nat) (hn : n < T256) (w : World) :
    Calls Try.prog 10 #[E n] w fun e w' => e = .returned (E (n * n % P25)) ∧ Later w w' := by
  have hb : Blk ((w.alloc (.cells (EL n).toArray 26)).alloc (.cells (List.replicate 4 (.int .u64 0)).toArray 26)) w.heap.size 26 (EL n) := (Blk.new _ _ _).later (later_alloc _ _)
  have hr : Blk ((w.alloc (.cells (EL n).toArray 26)).alloc (.cells (List.replicate 4 (.int .u64 0)).toArray 26)) (w.heap.size + 1) 26 (List.replicate 4 (.int .u64 0)) := Blk.new' _ _ _ (by simp)
  go_enter Try.func10, Try.ntmps10
  go_wp2_with (first
    | (refine load_E rfl _ rfl hb rfl ?_)
    | (go_at_call 29; (with_reducible refine (multiply_any n n hn hn _).mono ?_); rintro e w2 ⟨rfl, hl2⟩
       have hr2 := hr.later hl2
       have L2 : Later w w2 := ((later_alloc _ _).trans (later_alloc _ _)).trans hl2)
    | (refine store_E rfl rfl _ _ rfl hr2 rfl rfl rfl ?_; intro w3 hb3 ho3)
    | fail)
  exact bodyPost_ret (ret_E rfl hb3 rfl) rfl ⟨rfl, L2.only ho3 (by omega)⟩
set_option maxHeartbeats 1000000 in
theorem is_any (n m : Nat) (hn : n < T256) (hm : m < T256) (w : World) :
    Calls Try.prog 12 #[E n, E m] w fun e w' => e = .returned (.bool (n % P25 == m % P25)) ∧ Later w w' := by
  have hb : Blk ((w.alloc (.cells (EL n).toArray 26)).alloc (.cells (EL m).toArray 26)) w.heap.size 26 (EL n) := (Blk.new _ _ _).later (later_alloc _ _)
  have hc : Blk ((w.alloc (.cells (EL n).toArray 26)).alloc (.cells (EL m).toArray 26)) (w.heap.size + 1) 26 (EL m) := Blk.new' _ _ _ (by simp)
  go_enter Try.func12, Try.ntmps12
  go_wp2_with fail
  refine wp_region_parts [([0, 2], 1), ([], 3)] [4, 5] [] (by as_aux_lemma => kernel_rfl) (by as_aux_lemma => kernel_rfl) (by intro _ _ d _ _ h; cases d <;> exact h) ?_
  simp only [wpParts, pick, List.getElem?_cons_succ, List.getElem?_cons_zero, Option.toList_some, List.cons_append, List.nil_append]
  repeat (first | go_big_quiet_skip | (go_big_quiet_want; (first | refine quiet_E _ rfl hb.drew rfl ?_ | refine quiet_E _ rfl hc.drew rfl ?_); simp only [Act.put, List.setIfInBounds_toArray, List.set_cons_succ, List.set_cons_zero]; go_big_quiet_on) | (go_big_quiet_step (fail)))
  refine wpQuiet_nil ?_
  go_wp2_with fail
  (with_reducible refine (norm_any n hn _).mono ?_); rintro e w2 ⟨rfl, hl2⟩
  go_wp2_with fail
  try refine ⟨by first | assumption | exact later_drew _ | exact later_alloc _ _ | exact Later.refl _, ?_⟩
  try simp only [wpParts, pick, List.getElem?_cons_succ, List.getElem?_cons_zero, Option.toList_some, List.cons_append, List.nil_append]
  repeat (go_big_quiet_step (fail))
  refine wpQuiet_nil ?_
  go_wp2_with fail
  (with_reducible refine (norm_any m hm _).mono ?_); rintro e w3 ⟨rfl, hl3⟩
  go_wp2_with fail
  try refine ⟨by first | assumption | exact later_drew _ | exact later_alloc _ _ | exact Later.refl _, ?_⟩
  try simp only [wpParts, pick, List.getElem?_cons_succ, List.getElem?_cons_zero, Option.toList_some, List.cons_append, List.nil_append]
  repeat (go_big_quiet_step (fail))
  refine wpQuiet_nil ?_
  go_wp2
  go_ret
  exact ⟨rfl, ((((later_alloc _ _).trans (later_alloc _ _)).drewN 1).trans hl2).trans hl3⟩
/-! ### Differences -/
theorem run_sub64n (x y b : Nat) (hx : x < B64) (hy : y < B64) (hb : b ≤ 1) (w : World) :
    (callFunc 30 #[n64 x, n64 y, n64 b]).run Try.prog w = .ok (.value (.tuple #[n64 ((x + B64 - y - b) % B64), n64 (if x < y + b then 1 else 0)])) w := by
  rw [n64_eq hx, n64_eq hy, n64_eq (show b < B64 by unfold B64; omega), run_callFunc_extern Try.func30 (by kernel_rfl) (by kernel_rfl) (by kernel_rfl) (e := sub64Entry) (by kernel_rfl), run_sub64 _ _ _ hb]
  rw [n64_eq (Nat.mod_lt _ B64_pos), n64_eq (show (if x < y + b then 1 else 0) < B64 by split <;> decide)]
  rfl
set_option maxHeartbeats 2000000 in
theorem fsub_any (n m : Nat) (hn : n < T256) (hm : m < T256) (w : World) :
    Calls Try.prog 8 #[E n, E m] w fun e w' => e = .returned (E ((n + (P25 - m % P25)) % P25)) ∧ Later w w' := by
  have hm1 : m % P25 < P25 := Nat.mod_lt _ P25_pos
  have hn1 : n % P25 < P25 := Nat.mod_lt _ P25_pos
  have hE := hid (E_cong (n := P25 + B64 ^ 4 - m % P25) (m := P25 - m % P25) (by rw [T256_eq]; unfold T256 P25 at *; omega))
  have hadd := hid (add_any' (n % P25) (P25 - m % P25) (by unfold T256 P25 at *; omega))
  have hb0 : Blk ((w.alloc (.cells (EL n).toArray 26)).alloc (.cells (EL m).toArray 26)) w.heap.size 26 (EL n) := (Blk.new _ _ _).later (later_alloc _ _)
  have hc0 : Blk ((w.alloc (.cells (EL n).toArray 26)).alloc (.cells (EL m).toArray 26)) (w.heap.size + 1) 26 (EL m) := Blk.new' _ _ _ (by simp)
  have L0 : Later w ((w.alloc (.cells (EL n).toArray 26)).alloc (.cells (EL m).toArray 26)) := (later_alloc _ _).trans (later_alloc _ _)
  go_enter Try.func8, Try.ntmps8
  go_wp2_with (first
    | (refine wpList_build_is rfl 26 _ rfl (EL P25) ?hb ?_; (case hb => kernel_rfl))
    | (refine store_E (g := w.heap.size + 1 + 1 + 1) rfl rfl _ _ rfl (Blk.new' _ _ (List.replicate 4 (.int .u64 0)) (by simp)) rfl rfl rfl ?_; intro w3 hb3 ho3
       have hn3 : Blk w3 w.heap.size 26 (EL n) := ((hb0.later (later_alloc _ _)).later (later_alloc _ _)).only ho3 (by omega)
       have hm3 : Blk w3 (w.heap.size + 1) 26 (EL m) := ((hc0.later (later_alloc _ _)).later (later_alloc _ _)).only ho3 (by omega)
       have hr3 : Blk w3 (w.heap.size + 1 + 1) 26 (List.replicate 4 (.int .u64 0)) := ((Blk.new' _ _ (List.replicate 4 (Value.int .u64 0)) (by simp)).later (later_alloc _ _)).only ho3 (by omega)
       have L3 : Later w w3 := ((L0.alloc _).alloc _).only ho3 (by omega)
       clear hb0 hc0 L0 ho3)
    | (refine load_E rfl _ rfl hm3 rfl ?_)
    | (go_at_call 9; (with_reducible refine (norm_any m hm _).mono ?_); rintro e w4 ⟨rfl, hl4⟩)
    | (refine store_E rfl rfl _ _ rfl (hm3.later hl4) rfl rfl (EL_length _) ?_; intro w5 hb5 ho5
       have hn5 := (hn3.later hl4).only ho5 (by omega)
       have hr5 := (hr3.later hl4).only ho5 (by omega)
       have hp5 := (hb3.later hl4).only ho5 (by omega)
       have L5 := (L3.trans hl4).only ho5 (by omega)
       clear hn3 hm3 hr3 hb3 L3 hl4 ho5)
    | fail)
  have hlS := EL_length (P25 + B64 ^ 4 - m % P25)
  have hlA := EL_length P25
  have hm1' : m % P25 < B64 ^ 4 := Nat.lt_trans hm1 (by decide)
  have hbl := hb5.lt
  generalize hMM : m % P25 = M at *
  have HM := hid hMM
  clear hMM
  go_loopw [6, 11] (fun c i wr => ∃ k : Nat, k ≤ 4 ∧ i = .int .i64 k ∧ c = n64 (owed B64 P25 M k) ∧ Blk wr (w.heap.size + 1 + 1 + 1) 26 (filled (EL (P25 + B64 ^ 4 - M)) (EL P25) k) ∧ Blk wr (w.heap.size + 1) 26 (EL M) ∧ Blk wr w.heap.size 26 (EL n) ∧ Blk wr (w.heap.size + 1 + 1) 26 (List.replicate 4 (.int .u64 0)) ∧ Later w wr) (fun _ i _ => 4 - (intOf i).toNat)
  case atStart => exact ⟨0, by omega, rfl, by rw [owed_zero]; rfl, by rw [filled_zero]; exact hp5, hb5, hn5, hr5, L5⟩
  case round =>
    clear hb5 hp5 hn5 hr5 L5
    obtain ⟨k, hk4, rfl, rfl, h1, h2, h0, h3, L⟩ := hrel
    by_cases hlt : k < 4
    · have hc := owed_le B64 P25 M k
      have S0 := hid (diff_dig B64_pos P25 M k 4 hlt hm1')
      have S1 := hid (owed_succ B64_pos P25 M k)
      have d0 := h1.cellD k (u := n64 (lim P25 k)) (by rw [filled_old _ _ _ _ (by omega) (Nat.le_refl _) (by omega)]; exact EL_get P25 k hlt)
      have d1 := h2.cellD k (EL_get M k hlt)
      generalize owed B64 P25 M k = c at *
      have hsub : ∀ w, (callFunc 30 #[n64 (lim P25 k), n64 (lim M k), n64 c]).run Try.prog w = .ok (.value (.tuple #[n64 ((lim P25 k + B64 - lim M k - c) % B64), n64 (if lim P25 k < lim M k + c then 1 else 0)])) w := fun w => run_sub64n _ _ _ (Nat.mod_lt _ B64_pos) (Nat.mod_lt _ B64_pos) hc w
      obtain ⟨X, hX⟩ : ∃ X, X = (lim P25 k + B64 - lim M k - c) % B64 := ⟨_, rfl⟩
      obtain ⟨Y, hY⟩ : ∃ Y, Y = (if lim P25 k < lim M k + c then 1 else 0) := ⟨_, rfl⟩
      rw [← hX, ← hY] at hsub
      have HX := hid hX
      have HY := hid hY
      clear hX hY
      go_wp2_with fail
      refine wp_region_parts [([0, 1, 2, 3, 4, 5, 6, 7], 8)] [9, 10, 11, 12] [13, 14] (by as_aux_lemma => kernel_rfl) (by as_aux_lemma => kernel_rfl) (by intro _ _ d _ _ h; cases d <;> exact h) ?_
      simp only [wpParts, pick, List.getElem?_cons_succ, List.getElem?_cons_zero, Option.toList_some, List.cons_append, List.nil_append]
      repeat (go_big_quiet_step (fail))
      refine wpQuiet_nil ?_
      go_wp2_with fail
      try refine ⟨by first | assumption | exact later_drew _ | exact later_alloc _ _ | exact Later.refl _, ?_⟩
      try simp only [wpParts, pick, List.getElem?_cons_succ, List.getElem?_cons_zero, Option.toList_some, List.cons_append, List.nil_append]
      repeat (go_big_quiet_step (fail))
      refine wpQuiet_nil ?_
      go_wp2_with (first
        | (refine wpList_store_in rfl rfl _ _ _ rfl _ _ _ _ h1.drew rfl ?hl rfl (by kernel_rfl) ?_; (case hl => rw [filled_length _ _ _ (by omega)]; omega); intro v w2 hv hb2 ho2; simp [go_sem] at hv; subst hv)
        | fail)
      go_roundw
      case rel =>
        rw [filled_step _ _ _ _ (by omega) (by omega) (by rw [EL_get _ k hlt, HX.out, lim, lim, lim, S0.out])] at hb2
        exact ⟨k + 1, by omega, by go_num, by rw [S1.out, HY.out]; rfl, hb2, h2.drew.only ho2 (by omega), h0.drew.only ho2 (by omega), h3.drew.only ho2 (by omega), (L.trans (later_drew _)).only ho2 (by omega)⟩
      case measure => simp [intOf]; omega
    · rw [show k = 4 by omega, filled_all _ _ _ hlS hlA] at h1
      have h1' : Blk wr (w.heap.size + 1 + 1 + 1) 26 (EL (P25 - M)) := by
        have e : EL (P25 + B64 ^ 4 - M) = EL (P25 - M) := by rw [EL_cong]; rw [T256_eq]; unfold T256 P25 at *; omega
        rwa [e] at h1
      have hkf : decide ((k : Int) < 4) = false := by simp; omega
      clear h1 hE
      go_wp2_with fail
      refine wp_region_parts [([0, 2], 1)] [] [3, 4] (by as_aux_lemma => kernel_rfl) (by as_aux_lemma => kernel_rfl) (by intro _ _ d _ _ h; cases d <;> exact h) ?_
      simp only [wpParts, pick, List.getElem?_cons_succ, List.getElem?_cons_zero, Option.toList_some, List.cons_append, List.nil_append]
      repeat (first | go_big_quiet_skip | (go_big_quiet_want; (first | refine quiet_E _ rfl h0.drew rfl ?_ | refine quiet_E _ rfl h1'.drew rfl ?_); simp only [Act.put, List.setIfInBounds_toArray, List.set_cons_succ, List.set_cons_zero]; go_big_quiet_on) | (go_big_quiet_step (fail)))
      refine wpQuiet_nil ?_
      go_wp2_with fail
      (with_reducible refine (norm_any n hn _).mono ?_); rintro e w2 ⟨rfl, hl2⟩
      go_wp2_with fail
      try refine ⟨by first | assumption | exact later_drew _ | exact later_alloc _ _ | exact Later.refl _, ?_⟩
      try simp only [wpParts, pick, List.getElem?_cons_succ, List.getElem?_cons_zero, Option.toList_some, List.cons_append, List.nil_append]
      repeat (go_big_quiet_step (fail))
      refine wpQuiet_nil ?_
      go_wp2_with fail
      (with_reducible refine (hadd.out _).mono ?_); rintro e w3 ⟨rfl, hl3⟩
      have h33 := ((h3.drew.later hl2)).later hl3
      have L3 := ((L.trans (later_drew _)).trans hl2).trans hl3
      go_wp2_with (refine store_E rfl rfl _ _ rfl h33 rfl rfl rfl ?_; intro w4 hb4 ho4)
      exact bodyPost_ret (ret_E rfl hb4 rfl) rfl ⟨by rw [HM.out], L3.only ho4 (by omega)⟩
end Go.Proofs.Ytkibgdigcgakfaa
namespace Go.Proofs.Ytkibgdigcgakfaa
open Go.RowKit

/-- Digit j. -/
def lem (n j : Nat) : Nat := n / B32 ^ j % B32
@[go_sem] theorem lem_lt (n i : Nat) : (lem n i < B32) = True := eq_true (Nat.mod_lt _ B32_pos)
@[go_sem] theorem lem_lt64 (n i : Nat) : (lem n i < B64) = True := eq_true (Nat.lt_trans (Nat.mod_lt _ B32_pos) (by decide))
def NL (n : Nat) : List Value := (dig B32 8 n).map n32
abbrev NN (n : Nat) : Value := .agg (NL n).toArray
theorem NL_length (n : Nat) : (NL n).length = 8 := by rw [NL, List.length_map, dig_length]
theorem NL_get (n i : Nat) (h : i < 8) : (NL n)[i]? = some (n32 (lem n i)) := by rw [NL, List.getElem?_map, dig_get _ _ _ _ h]; rfl
@[go_sem] theorem NL_at (n i : Nat) (h : i < (NL n).length) : (NL n)[i] = n32 (lem n i) := by
  have := NL_get n i (by rw [NL_length] at h; exact h)
  rw [List.getElem?_eq_getElem h] at this
  exact Option.some.inj this
theorem NL_one (n : Nat) : ∀ v ∈ NL n, v.oneCell' = true := n32_one _
def VL (n : Nat) : List Value := (dig B32 17 n).map n64
abbrev VV (n : Nat) : Value := .agg (VL n).toArray
theorem VL_length (n : Nat) : (VL n).length = 17 := by rw [VL, List.length_map, dig_length]
theorem VL_get (n i : Nat) (h : i < 17) : (VL n)[i]? = some (n64 (lem n i)) := by rw [VL, List.getElem?_map, dig_get _ _ _ _ h]; rfl
@[go_sem] theorem VL_at (n i : Nat) (h : i < (VL n).length) : (VL n)[i] = n64 (lem n i) := by
  have := VL_get n i (by rw [VL_length] at h; exact h)
  rw [List.getElem?_eq_getElem h] at this
  exact Option.some.inj this
theorem VL_one (n : Nat) : ∀ v ∈ VL n, v.oneCell' = true := n64_one _
theorem B32_8 : B32 ^ 8 = T256 := by decide
theorem NL_cong {n m : Nat} (h : n % T256 = m % T256) : NL n = NL m := by
  rw [NL, NL, ← dig_mod, ← dig_mod (n := m), B32_8, h]
theorem NN_cong {n m : Nat} (h : n % T256 = m % T256) : NN n = NN m := by rw [NN, NN, NL_cong h]
theorem sizeF : (Try.prog.info? 23).map (·.size) = some 4 := by kernel_rfl
section
variable {ops : Array Oper} {rest : List Oper} {o : Oper} {a : Act} {w : World} {Q : Exit → Act → World → Prop}
theorem load_F (hgd : Region.wanted o (yielded ops a.tmps) = true) (x : Operand) (ho : o.op = .load 23 x) {g : Nat} {t : TypeId} {n : Nat} (hb : Blk w g t (EL n)) (hx : a.eval x = .pointer (some ⟨g, 0, none⟩))
    (h : wpList Try.prog ops Q rest (a.put o.dst (E n)) w) : wpList Try.prog ops Q (o :: rest) a w :=
  wpList_load_blk hgd _ x ho g t _ hb hx _ Try.underlying23 rfl 4 sizeF (EL_length n) h
theorem store_F (hgd : o.guard = none) (hd : o.dst = none) (x y : Operand) (ho : o.op = .store 23 x y) {g : Nat} {t : TypeId} {l : List Value} {n : Nat} (hg : Blk w g t l) (hx : a.eval x = .pointer (some ⟨g, 0, none⟩)) (hy : a.eval y = E n) (hl : l.length = 4)
    (h : ∀ w', Blk w' g t (EL n) → Only g w w' → wpList Try.prog ops Q rest a w') : wpList Try.prog ops Q (o :: rest) a w :=
  wpList_store_blk hgd hd _ x y ho g t l _ hg hx hy 4 sizeF (EL_length n) hl (EL_one n) h
theorem ret_F {fn : Func} {p : Tmp} (hf : fn.results = #[.cell p 23]) {tmps : Array Value} {g : Nat} {t : TypeId} {n : Nat} (hg : Blk w g t (EL n)) (hp : tmps.getD p undef = .pointer (some ⟨g, 0, none⟩)) :
    (results fn tmps).run Try.prog w = .ok (E n) w := results_blk hf tmps w g t _ _ hg hp Try.underlying23 rfl (by rw [EL_length]; exact sizeF)
end
@[go_sem] theorem shl_n64 (T : TypeId) (x : Nat) (yk : IntKind) (k : Int) (h0 : 0 ≤ k) : binOp .shl T (n64 x) (.int yk k) = pure (n64 (x * 2 ^ k.toNat)) := by
  rw [n64, shl_w64' _ _ _ _ h0, n64_w]
  rw [shl64]
  show (BitVec.toNat _) = _
  rw [BitVec.toNat_shiftLeft, Nat.shiftLeft_eq]
  show (UInt64.ofNat x).toNat * _ % 2 ^ 64 = _
  rw [UInt64.toNat_ofNat', Nat.mod_mul_mod]
  rfl
theorem pow_32_64 (k : Nat) : B32 ^ (2 * k) = B64 ^ k := by rw [Nat.pow_mul]; congr 1
theorem lem_even (n k : Nat) : lim n k % 4294967296 = lem n (2 * k) := by
  rw [lim, lem, pow_32_64]
  generalize n / B64 ^ k = x
  unfold B64 B32
  omega
theorem lem_odd (n k : Nat) : lim n k / 4294967296 = lem n (2 * k + 1) := by
  rw [lim, lem, Nat.pow_succ, pow_32_64, ← Nat.div_div_eq_div_mul]
  generalize n / B64 ^ k = x
  unfold B64 B32
  omega
theorem lim_two (n k : Nat) : lem n (2 * k) + lem n (2 * k + 1) * 4294967296 = lim n k := by
  rw [← lem_even, ← lem_odd]
  omega
theorem eight_zero : NL 0 = List.replicate 8 (.int .u32 0) := by rfl
end Go.Proofs.Ytkibgdigcgakfaa
namespace Go.Proofs.Ytkibgdigcgakfaa
open Go.RowKit

/-- The number that lies in a block. -/
def decV : Option Value → Nat
  | some (.int _ x) => x.toNat
  | _ => 0
def lies (B k : Nat) (g : Nat) (w : World) : Nat := val B ((List.range k).map fun i => decV (w.cell? ⟨g, i, none⟩))
theorem range_dig (B n : Nat) : ∀ k, (List.range k).map (fun i => n / B ^ i % B) = dig B k n
  | 0 => rfl
  | k + 1 => by rw [List.range_succ, List.map_append, range_dig B n k, dig_snoc]; rfl
theorem lies_N {w : World} {g : Nat} {t : TypeId} {n : Nat} (h : Blk w g t (NL n)) (hn : n < T256) : lies B32 8 g w = n := by
  have e : (List.range 8).map (fun i => decV (w.cell? ⟨g, i, none⟩)) = dig B32 8 n := by
    rw [← range_dig]
    apply List.map_congr_left
    intro i hi
    rw [h.cellD i (NL_get n i (List.mem_range.1 hi)), n32_eq (n := lem n i) (Nat.mod_lt _ B32_pos)]
    show Int.toNat ((lem n i : Nat) : Int) = _
    rw [Int.toNat_natCast]
    rfl
  rw [lies, e, val_dig, B32_8, Nat.mod_eq_of_lt hn]
theorem lies_V {w : World} {g : Nat} {t : TypeId} {n : Nat} (h : Blk w g t (VL n)) (hn : n < B32 ^ 17) : lies B32 17 g w = n := by
  have e : (List.range 17).map (fun i => decV (w.cell? ⟨g, i, none⟩)) = dig B32 17 n := by
    rw [← range_dig]
    apply List.map_congr_left
    intro i hi
    rw [h.cellD i (VL_get n i (List.mem_range.1 hi)), n64_eq (n := lem n i) (Nat.lt_trans (Nat.mod_lt _ B32_pos) (by decide))]
    show Int.toNat ((lem n i : Nat) : Int) = _
    rw [Int.toNat_natCast]
    rfl
  rw [lies, e, val_dig, Nat.mod_eq_of_lt hn]
end Go.Proofs.Ytkibgdigcgakfaa
namespace Go.Proofs.Ytkibgdigcgakfaa
open Go.RowKit

theorem digits_zero {B : Nat} (x : Nat) : ∀ k, (∀ j, j < k → x / B ^ j % B = 0) → x % B ^ k = 0
  | 0, _ => by simp [Nat.mod_one]
  | k + 1, h => by rw [mod_pow_succ, digits_zero x k (fun j hj => h j (by omega)), h k (by omega), Nat.mul_zero]
theorem lem_hi (n j : Nat) : lem n (8 + j) = lem (n / T256) j := by rw [lem, lem, ← B32_8, Nat.div_div_eq_div_mul, ← Nat.pow_add]
theorem lem_lo (n j : Nat) (h : j < 8) : lem n j = lem (n % T256) j := by
  rw [lem, lem, ← dig_getD B32 8 n j h, ← dig_getD B32 8 _ j h, ← B32_8, dig_mod]
theorem high_no (n : Nat) (hn : n < B32 ^ 17) (h : ∀ j, 8 ≤ j → j < 17 → lem n j = 0) : n < T256 := by
  have h9 : n / T256 < B32 ^ 9 := Nat.div_lt_of_lt_mul (by rw [← B32_8, ← Nat.pow_add]; exact hn)
  have := digits_zero (B := B32) (n / T256) 9 (fun j hj => by have := h (8 + j) (by omega) (by omega); rw [lem_hi] at this; exact this)
  rw [Nat.mod_eq_of_lt h9] at this
  have hd := Nat.div_add_mod n T256
  rw [this, Nat.mul_zero, Nat.zero_add] at hd
  rw [← hd]
  exact Nat.mod_lt _ (by decide)
theorem high_yes (n j : Nat) (h8 : 8 ≤ j) (h : lem n j ≠ 0) : ¬ n < T256 := by
  intro hn
  refine h ?_
  rw [lem, Nat.div_eq_of_lt, Nat.zero_mod]
  exact Nat.lt_of_lt_of_le hn (by rw [← B32_8]; exact Nat.pow_le_pow_right (by decide) h8)
theorem ret_bool {b c : Bool} (h : b = c) : Ending.returned (.bool b) = .returned (.bool c) := by rw [h]
theorem VL_filled (S : Nat) (hS : S < B32 ^ 10) : filled (VL S) (List.replicate 17 (.int .u64 0)) 10 = VL S := by
  have hl := VL_length S
  apply List.ext_getElem (by rw [filled_length _ _ _ (by rw [hl]; rfl), hl]; rfl)
  intro i h1 h2
  rw [hl] at h2
  by_cases hi : i < 10
  · have e : (filled (VL S) (List.replicate 17 (.int .u64 0)) 10)[i]? = (VL S)[i]? := by
      rw [filled, List.getElem?_append_left (by rw [List.length_take, hl]; omega), List.getElem?_take, if_pos hi]
    rw [List.getElem?_eq_getElem h1, List.getElem?_eq_getElem (by rw [hl]; exact h2)] at e
    exact Option.some.inj e
  · have e := filled_old (VL S) (List.replicate 17 (.int .u64 0)) 10 i (by rw [hl]; rfl) (by omega) (by simpa using h2)
    rw [List.getElem?_eq_getElem h1, List.getElem?_replicate, if_pos h2] at e
    rw [Option.some.inj e, VL_at, lem, Nat.div_eq_of_lt, Nat.zero_mod]
    · rfl
    · exact Nat.lt_of_lt_of_le hS (Nat.pow_le_pow_right (by decide) (by omega))
theorem fold_math (m : Nat) (h : T256 ≤ m) : 38 * (m / T256) + m % T256 < m ∧ (38 * (m / T256) + m % T256) % P25 = m % P25 := by
  unfold T256 P25 at *
  omega
end Go.Proofs.Ytkibgdigcgakfaa
namespace Go.Proofs.Ytkibgdigcgakfaa
open Go.RowKit

theorem VL_filled' (S k : Nat) (hk : k ≤ 17) (hS : S < B32 ^ k) : filled (VL S) (List.replicate 17 (.int .u64 0)) k = VL S := by
  have hl := VL_length S
  apply List.ext_getElem (by rw [filled_length _ _ _ (by rw [hl]; rfl), hl]; rfl)
  intro i h1 h2
  rw [hl] at h2
  by_cases hi : i < k
  · have e : (filled (VL S) (List.replicate 17 (.int .u64 0)) k)[i]? = (VL S)[i]? := by
      rw [filled, List.getElem?_append_left (by rw [List.length_take, hl]; omega), List.getElem?_take, if_pos hi]
    rw [List.getElem?_eq_getElem h1, List.getElem?_eq_getElem (by rw [hl]; exact h2)] at e
    exact Option.some.inj e
  · have e := filled_old (VL S) (List.replicate 17 (.int .u64 0)) k i (by rw [hl]; rfl) (by omega) (by simpa using h2)
    rw [List.getElem?_eq_getElem h1, List.getElem?_replicate, if_pos h2] at e
    rw [Option.some.inj e, VL_at, lem, Nat.div_eq_of_lt, Nat.zero_mod]
    · rfl
    · exact Nat.lt_of_lt_of_le hS (Nat.pow_le_pow_right (by decide) (by omega))
theorem prod_dig {B : Nat} (hB : 0 < B) (a b k n : Nat) (ha : a < B ^ k) (hb : b < B ^ k) (hn : k + k ≤ n) : prodAt B (dig B k a) (dig B k b) n k = dig B n (a * b) := by
  have hl := prodAt_length B (dig B k a) (dig B k b) n k
  have hlt := prodAt_lt hB (dig B k a) (dig B k b) n (dig_lt hB k a) (dig_lt hB k b) k
  have hv := prodAt_val (B := B) (dig B k a) (dig B k b) n k (by rw [dig_length]; omega) (by rw [dig_length]; omega)
  rw [List.take_of_length_le (by rw [dig_length]; omega), val_dig, val_dig, Nat.mod_eq_of_lt ha, Nat.mod_eq_of_lt hb] at hv
  have := dig_val _ hlt
  rw [hl, hv] at this
  exact this.symm
end Go.Proofs.Ytkibgdigcgakfaa
namespace Go.Proofs.Ytkibgdigcgakfaa
open Go.RowKit

end Go.Proofs.Ytkibgdigcgakfaa
