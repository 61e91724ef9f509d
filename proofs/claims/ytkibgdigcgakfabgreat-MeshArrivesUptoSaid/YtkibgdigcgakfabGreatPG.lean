/-
  Lemmas for the last text of this claim (part 7 of 20).
-/
import Derived.BigQuiet
import Derived.BigRegion
import Derived.ChangeOld
import Derived.Deep.RegionWith
import Derived.DeepKeys4
import Derived.JoinedCond
import Derived.LaidMore
import Derived.Laws.CopyOwn
import Derived.Laws.Externs
import Derived.Laws.IdiomStrings
import Derived.Laws.Tables
import Derived.Lib.AppendStr
import Derived.Lib.AppendZerosOnto
import Derived.Lib.Mul64
import Derived.Lib.SlBytesConst
import Derived.LoopN
import Derived.Maps.OwnSet
import Derived.OpenShut
import Derived.OrdersHeld
import Derived.ProofKit
import Derived.Shelf.Spec.BitsCarry
import Derived.ShutString
import Derived.Test.YtkibgdigcgakfabGreatProg
import Derived.Test.YtkibgdigcgakfabGreatRows
import Derived.WalkKit
import Derived.WalkLawsBesides
import Derived.WalkSpells
import Derived.Test.YtkibgdigcgakfabGreatPD
import Derived.Test.YtkibgdigcgakfabGreatPF
open BitVec renaming toNat_ushiftRight → Qng
open Bool renaming eq_iff_iff → QmY
open List renaming getElem?_eq_getElem → Qmw, getElem?_cons_succ → Qmz, length_map → QmD, getElem?_map → QmR, mem_cons → QmV, range → Qnf, length_cons → Qnl
open Nat renaming mod_eq_of_lt → Qm0, shiftRight_eq_div_pow → Qne, shiftLeft_eq → Qnu, mod_lt → Qny
open UInt32 renaming ofNat → QmM
open UInt64 renaming ofNat → QmB, toNat_ofNat' → QmF, toNat_inj → Qnn
open UInt8 renaming ofNat → QmJ, toNat_inj → Qm7, toNat_ofNat' → Qnc
namespace Go.Proofs.YtkibgdigcgakfabGreat
def val (B : Nat) : List Nat → Nat
 | [] => 0
 | x :: l => x + B * val B l
def dig (B : Nat) : Nat → Nat → List Nat
 | 0, _ => []
 | k + 1, n => n % B :: dig B k (n / B)
theorem QaH (B : Nat) : ∀ k n, (dig B k n).length = k
 | 0, _ => rfl
 | k + 1, n => by rw [dig, Qnl, QaH B k]
theorem Qeq (B : Nat) : ∀ k n, val B (dig B k n) = n % B ^ k
 | 0, n => by simp [dig, val, Nat.mod_one]
 | k + 1, n => by rw [dig, val, Qeq B k, Nat.pow_succ', Nat.mod_mul]
theorem QfZ {B : Nat} (hB : 0 < B) : ∀ k n, ∀ x ∈ dig B k n, x < B
 | 0, _, x, h => by cases h
 | k + 1, n, x, h => by
   rcases QmV.1 h with rfl | h
   · exact Qny _ hB
   · exact QfZ hB k _ x h
theorem Qde (B : Nat) : ∀ k n i, i < k → (dig B k n)[i]? = some (n / B ^ i % B)
 | 0, _, _, h => by omega
 | k + 1, n, 0, _ => by simp [dig]
 | k + 1, n, i + 1, h => by
   rw [dig, Qmz, Qde B k _ i (by omega), Nat.div_div_eq_div_mul, ← Nat.pow_succ']
theorem Qim {B k n m : Nat} (hn : n < B ^ k) (hm : m < B ^ k) (h : dig B k n = dig B k m) : n = m := by
 have := Qeq B k n
 rw [h, Qeq, Qm0 hn, Qm0 hm] at this
 exact this.symm
end Go.Proofs.YtkibgdigcgakfabGreat
namespace Go.Proofs.YtkibgdigcgakfabGreat
open Go.RowKit
def B64 : Nat := 18446744073709551616
def B32 : Nat := 4294967296
theorem Qbw : 0 < B64 := by decide
theorem Qdi : 0 < B32 := by decide
def n64 (n : Nat) : Value := W64 (QmB n)
def n32 (n : Nat) : Value := W32 (QmM n)
def n8 (n : Nat) : Value := W8 (QmJ n)
@[go_sem] theorem QlW (n : Nat) : (n % B64 < B64) = True := eq_true (Qny _ Qbw)
@[go_sem] theorem Qls (n : Nat) : (n % B32 < B32) = True := eq_true (Qny _ Qdi)
theorem Qce {n : Nat} {x : UInt64} (h : x.toNat = n % B64) : W64 x = n64 n := by
 unfold B64 at h
 rw [n64]
 congr 1
 apply Qnn.1
 rw [QmF, h]
theorem Qho {n : Nat} {x : UInt32} (h : x.toNat = n % B32) : W32 x = n32 n := by
 unfold B32 at h
 rw [n32]
 congr 1
 apply UInt32.toNat_inj.1
 rw [UInt32.toNat_ofNat', h]
theorem n8_w {n : Nat} {x : UInt8} (h : x.toNat = n % 256) : W8 x = n8 n := by
 rw [n8]
 congr 1
 apply Qm7.1
 rw [Qnc, h]
theorem Qjw {n m : Nat} (h : n % B64 = m % B64) : n64 n = n64 m := by
 rw [n64]
 apply Qce
 rw [QmF, ← h]
 rfl
theorem Ql4 (x : UInt64) : W64 x = n64 x.toNat := by rw [n64, UInt64.ofNat_toNat]
theorem tn64 {n : Nat} (h : n < B64) : (QmB n).toNat = n := by
 unfold B64 at h
 rw [QmF]
 exact Qm0 h
theorem tn32 {n : Nat} (h : n < B32) : (QmM n).toNat = n := by
 unfold B32 at h
 rw [UInt32.toNat_ofNat']
 exact Qm0 h
theorem QcW {n : Nat} (h : n < B64) : n64 n = .int .u64 (n : Int) := by rw [n64, W64, tn64 h]
theorem Qkf {n : Nat} (h : n < B32) : n32 n = .int .u32 (n : Int) := by rw [n32, W32, tn32 h]
theorem QbX (k : Int) (h0 : 0 ≤ k) (h1 : k < 18446744073709551616) : Value.int .u64 k = n64 k.toNat := by
 rw [QcW (by unfold B64; omega)]
 congr 1
 omega
theorem QiG (k : Int) (h0 : 0 ≤ k) (h1 : k < 4294967296) : Value.int .u32 k = n32 k.toNat := by
 rw [Qkf (by unfold B32; omega)]
 congr 1
 omega
@[go_sem ↓] theorem QjO (x : Nat) : (n64 x).cells = #[n64 x] := rfl
@[go_sem ↓] theorem QjN (x : Nat) : (n32 x).cells = #[n32 x] := rfl
@[go_sem ↓] theorem Qko (x : Nat) : (n8 x).cells = #[n8 x] := rfl
@[go_sem] theorem QkX : (0 < B64) = True := eq_true Qbw
@[go_sem] theorem QlO : (1 < B64) = True := eq_true (by decide)
@[go_sem] theorem QkC : (0 < B32) = True := eq_true Qdi
@[go_sem] theorem QlV : (1 < B32) = True := eq_true (by decide)
section
variable (T : TypeId) (ox oy : Operand)
@[go_sem] theorem QiF (op : BinOp) (x y : Nat) : eqGuard op T ox oy (n64 x) (n64 y) = pure () := Qap ..
@[go_sem] theorem Qid (op : BinOp) (x : Nat) (k : IntKind) (y : Int) : eqGuard op T ox oy (n64 x) (.int k y) = pure () := Qap ..
@[go_sem] theorem QhN (op : BinOp) (x : Nat) (k : IntKind) (y : Int) : eqGuard op T ox oy (.int k y) (n64 x) = pure () := Qap ..
@[go_sem] theorem Qi0 (op : BinOp) (x y : Nat) : eqGuard op T ox oy (n32 x) (n32 y) = pure () := Qap ..
@[go_sem] theorem QhX (op : BinOp) (x : Nat) (k : IntKind) (y : Int) : eqGuard op T ox oy (n32 x) (.int k y) = pure () := Qap ..
@[go_sem] theorem QhT (op : BinOp) (x : Nat) (k : IntKind) (y : Int) : eqGuard op T ox oy (.int k y) (n32 x) = pure () := Qap ..
@[go_sem] theorem QgT (x y : Nat) : binOp .add T (n64 x) (n64 y) = pure (n64 (x + y)) := by
  rw [n64, n64, Qeh, Qce]
  rw [UInt64.toNat_add, QmF, QmF]
  unfold B64
  omega
@[go_sem] theorem QkR (x : Nat) (k : Int) (h0 : 0 ≤ k) (h1 : k < 18446744073709551616) : binOp .add T (n64 x) (.int .u64 k) = pure (n64 (x + k.toNat)) := by rw [QbX k h0 h1, QgT]
@[go_sem] theorem Qkr (x : Nat) (k : Int) (h0 : 0 ≤ k) (h1 : k < 18446744073709551616) : binOp .add T (.int .u64 k) (n64 x) = pure (n64 (k.toNat + x)) := by rw [QbX k h0 h1, QgT]
@[go_sem] theorem QlY (x y : Nat) (hx : x < B64) (hy : y ≤ x) : binOp .sub T (n64 x) (n64 y) = pure (n64 (x - y)) := by
  rw [n64, n64, Qes, Qce]
  unfold B64 at hx
  rw [UInt64.toNat_sub, QmF, QmF]
  unfold B64
  omega
@[go_sem] theorem QeA (x y : Nat) : binOp .mul T (n64 x) (n64 y) = pure (n64 (x * y)) := by
  rw [n64, n64, Qej, Qce]
  rw [UInt64.toNat_mul, QmF, QmF]
  exact (Nat.mul_mod x y B64).symm
@[go_sem] theorem Qky (x : Nat) (k : Int) (h0 : 0 ≤ k) (h1 : k < 18446744073709551616) : binOp .mul T (n64 x) (.int .u64 k) = pure (n64 (x * k.toNat)) := by rw [QbX k h0 h1, QeA]
@[go_sem] theorem QkS (x : Nat) (k : Int) (h0 : 0 ≤ k) (h1 : k < 18446744073709551616) : binOp .mul T (.int .u64 k) (n64 x) = pure (n64 (k.toNat * x)) := by rw [QbX k h0 h1, QeA]
theorem QbI (x : Nat) (k : Nat) : x &&& (2 ^ k - 1) = x % 2 ^ k := Nat.and_two_pow_sub_one_eq_mod x k
@[go_sem] theorem QjP (x : Nat) : binOp .and T (n64 x) (.int .u64 9223372036854775807) = pure (n64 (x % 9223372036854775808)) := by
  rw [n64, Qdl _ _ _ (by omega) (by omega), Qce]
  rw [UInt64.toNat_and, QmF, QmF]
  have := QbI (x % 2 ^ 64) 63
  unfold B64
  simp only [Int.reduceToNat, Nat.reducePow, Nat.reduceSub, Nat.reduceMod] at this ⊢
  rw [this]
  omega
@[go_sem] theorem Qj4 (x : Nat) : binOp .and T (n64 x) (.int .u64 4294967295) = pure (n64 (x % 4294967296)) := by
  rw [n64, Qdl _ _ _ (by omega) (by omega), Qce]
  rw [UInt64.toNat_and, QmF, QmF]
  have := QbI (x % 2 ^ 64) 32
  unfold B64
  simp only [Int.reduceToNat, Nat.reducePow, Nat.reduceSub, Nat.reduceMod] at this ⊢
  rw [this]
  omega
@[go_sem] theorem Qj1 (x : Nat) : binOp .and T (n64 x) (.int .u64 1) = pure (n64 (x % 2)) := by
  rw [n64, Qdl _ _ _ (by omega) (by omega), Qce]
  rw [UInt64.toNat_and, QmF, QmF]
  have := QbI (x % 2 ^ 64) 1
  unfold B64
  simp only [Int.reduceToNat, Nat.reducePow, Nat.reduceSub, Nat.reduceMod] at this ⊢
  rw [this]
  omega
@[go_sem] theorem QiU (x : Nat) (hx : x < B64) (yk : IntKind) (k : Int) (h0 : 0 ≤ k) : binOp .shr T (n64 x) (.int yk k) = pure (n64 (x / 2 ^ k.toNat)) := by
  rw [n64, Qdw _ _ _ _ h0, Qce]
  rw [QcC]
  show (BitVec.toNat _) = _
  rw [Qng]
  show (QmB x).toNat >>> _ = _
  rw [tn64 hx, Qne]
  have : x / 2 ^ k.toNat < B64 := Nat.lt_of_le_of_lt (Nat.div_le_self _ _) hx
  rw [Qm0 this]
@[go_sem] theorem QiL (x : Nat) (hx : x < B64) (k : Int) (h0 : 0 < k) (h1 : k < 18446744073709551616) : binOp .rem T (n64 x) (.int .u64 k) = pure (n64 (x % k.toNat)) := by
  rw [n64, QhC _ _ _ (by omega) h1 (by rw [QmF]; omega), Qce]
  rw [UInt64.toNat_mod, tn64 hx, QmF, Qm0 (show k.toNat < 2 ^ 64 by omega), Qm0 (Nat.lt_of_le_of_lt (Nat.mod_le _ _) hx)]
@[go_sem] theorem Qjt (x : Nat) : binOp .rem T (n64 x) (.int .u64 4294967296) = pure (n64 (x % B32)) := by
  rw [Qjw (show x % B64 = (x % B64) % B64 by rw [Nat.mod_mod]), QiL _ _ (Qny _ Qbw) _ (by omega) (by omega)]
  congr 2
  unfold B64 B32
  simp only [Int.reduceToNat]
  omega
theorem Qit (x y : Nat) (hx : x < B64) (hy : y < B64) : binOp .eql T (n64 x) (n64 y) = pure (.bool (x == y)) := by
 rw [n64, n64, Qec]
 congr 2
 rw [QmY]
 simp only [beq_iff_eq, ← Qnn, tn64 hx, tn64 hy]
@[go_sem] theorem QkI (x : Nat) (k : Int) (hx : x < B64) (h0 : 0 ≤ k) (h1 : k < 18446744073709551616) : binOp .eql T (n64 x) (.int .u64 k) = pure (.bool (x == k.toNat)) := by
  rw [QbX k h0 h1, Qit _ _ _ hx (by unfold B64; omega)]
@[go_sem] theorem Qlo (x : Nat) (k : Int) (hx : x < B64) (h0 : 0 ≤ k) (h1 : k < 18446744073709551616) : binOp .gtr T (n64 x) (.int .u64 k) = pure (.bool (decide (k.toNat < x))) := by
  rw [QbX k h0 h1, n64, n64, Qd8]
  congr 2
  rw [QmY]
  simp only [decide_eq_true_eq, UInt64.lt_iff_toNat_lt, tn64 hx]
  rw [tn64 (show k.toNat < B64 by unfold B64; omega)]
@[go_sem] theorem QlU (x y : Nat) (hx : x < B64) (hy : y < B64) : binOp .lss T (n64 x) (n64 y) = pure (.bool (decide (x < y))) := by
  rw [n64, n64, Qd7]
  congr 2
  rw [QmY]
  simp only [decide_eq_true_eq, UInt64.lt_iff_toNat_lt, tn64 hx, tn64 hy]
end
section
variable {P : Program} (w : World) (S D : TypeId)
@[go_sem] theorem Qex (x : Nat) (hx : x < B32) (hs : (P.underlying S).isSome = true) (hd : P.underlying D = some (.int .u64)) : (convert S D (n32 x)).run P w = .ok (n64 x) w := by
  rw [n32, QbK _ _ _ _ hs hd, Qce]
  rw [UInt32.toNat_toUInt64, tn32 hx, Qm0 (show x < B64 by unfold B32 at hx; unfold B64; omega)]
@[go_sem] theorem Qem (x : Nat) (hs : (P.underlying S).isSome = true) (hd : P.underlying D = some (.int .u32)) : (convert S D (n64 x)).run P w = .ok (n32 x) w := by
  rw [n64, QbM _ _ _ _ hs hd, Qho]
  rw [UInt64.toNat_toUInt32, QmF]
  unfold B32
  omega
@[go_sem] theorem QeN (x : Nat) (hs : (P.underlying S).isSome = true) (hd : P.underlying D = some (.int .u8)) : (convert S D (n64 x)).run P w = .ok (n8 x) w := by
  rw [n64, QbR _ _ _ _ hs hd, n8_w]
  rw [UInt64.toNat_toUInt8, QmF]
  omega
@[go_sem] theorem Qhp (P : Program) (w : World) (a : Addr) (m : Mode) (x : Nat) : (store a (n64 x) m).run P w = stored P w a (n64 x) m := run_store P w a _ m rfl
@[go_sem] theorem Qg1 (P : Program) (w : World) (a : Addr) (m : Mode) (x : Nat) : (store a (n32 x) m).run P w = stored P w a (n32 x) m := run_store P w a _ m rfl
@[go_sem] theorem QhL (P : Program) (w : World) (a : Addr) (m : Mode) (x : Nat) : (store a (n8 x) m).run P w = stored P w a (n8 x) m := run_store P w a _ m rfl
end
end Go.Proofs.YtkibgdigcgakfabGreat
namespace Go.Proofs.YtkibgdigcgakfabGreat
open Go.RowKit
def EL (n : Nat) : List Value := (dig B64 4 n).map n64
abbrev E (n : Nat) : Value := .agg (EL n).toArray
theorem Qf3 (n : Nat) : (EL n).length = 4 := by rw [EL, QmD, QaH]
def lim (n i : Nat) : Nat := n / B64 ^ i % B64
@[go_sem] theorem Qmr (n i : Nat) : (lim n i < B64) = True := eq_true (Qny _ Qbw)
theorem Qjv (n i : Nat) (h : i < 4) : (EL n)[i]? = some (n64 (lim n i)) := by rw [EL, QmR, Qde _ _ _ _ h]; rfl
@[go_sem] theorem EL_at (n i : Nat) (h : i < (EL n).length) : (EL n)[i] = n64 (lim n i) := by
  have := Qjv n i (by rw [Qf3] at h; exact h)
  rw [Qmw h] at this
  exact Option.some.inj this
theorem QbZ (x y c : Nat) (hx : x < B64) (hy : y < B64) (hc : c ≤ 1) (w : World) :
 (callFunc 91 #[n64 x, n64 y, n64 c]).run Tryz.prog w = .ok (.value (.tuple #[n64 ((x + y + c) % B64), n64 ((x + y + c) / B64)])) w := by
 rw [QcW hx, QcW hy, QcW (show c < B64 by unfold B64; omega), run_callFunc_extern Tryz.func91 (by kernel_rfl) (by kernel_rfl) (by kernel_rfl) (e := add64Entry) (by kernel_rfl), run_add64 _ _ _ (by omega) (by omega) (by omega) (by omega)]
 simp only [Result.andThen]
 rw [QcW (Qny _ Qbw), QcW (show (x + y + c) / B64 < B64 by unfold B64 at *; omega)]
 congr 5 <;> (unfold B64; omega)
@[go_sem high] theorem run_add64 (x y c : Nat) (hx : x < B64) (hy : y < B64) (hc : c ≤ 1) (w : World) :
   (callFunc 91 #[n64 x, n64 y, n64 c]).run Tryz.prog w = .ok (.value (.tuple #[n64 ((x + y + c) % B64), n64 ((x + y + c) / B64)])) w := QbZ x y c hx hy hc w
@[go_sem high] theorem Qji (x y : Nat) (hx : x < B64) (hy : y < B64) (w : World) :
   (callFunc 91 #[n64 x, n64 y, .int .u64 0]).run Tryz.prog w = .ok (.value (.tuple #[n64 ((x + y) % B64), n64 ((x + y) / B64)])) w := QbZ x y 0 hx hy (by omega) w
@[go_sem high] theorem Qjg (x c : Nat) (hx : x < B64) (hc : c ≤ 1) (w : World) :
   (callFunc 91 #[n64 x, .int .u64 0, n64 c]).run Tryz.prog w = .ok (.value (.tuple #[n64 ((x + c) % B64), n64 ((x + c) / B64)])) w := QbZ x 0 c hx Qbw hc w
def P25 : Nat := 57896044618658097711785492504343953926634992332820282019728792003956564819949
def T255 : Nat := 57896044618658097711785492504343953926634992332820282019728792003956564819968
def T256 : Nat := 115792089237316195423570985008687907853269984665640564039457584007913129639936
theorem Qgr : B64 ^ 4 = T256 := by decide
theorem Qd2 : 0 < P25 := by decide
section
variable {ops : Array Oper} {rest : List Oper} {o : Oper} {a : Act} {w : World} {Q : Exit → Act → World → Prop}
end
end Go.Proofs.YtkibgdigcgakfabGreat
namespace Go.Proofs.YtkibgdigcgakfabGreat
open Go.RowKit
end Go.Proofs.YtkibgdigcgakfabGreat
namespace Go.Proofs.YtkibgdigcgakfabGreat
open Go.RowKit
end Go.Proofs.YtkibgdigcgakfabGreat
namespace Go.Proofs.YtkibgdigcgakfabGreat
open Go.RowKit
end Go.Proofs.YtkibgdigcgakfabGreat
namespace Go.Proofs.YtkibgdigcgakfabGreat
open Go.RowKit
@[go_sem] theorem QjY (n : Nat) : (n % P25 < T256) = True := eq_true (Nat.lt_trans (Qny _ Qd2) (by decide))
@[go_sem] theorem QjH (n : Nat) : (n % P25 < P25) = True := eq_true (Qny _ Qd2)
def ofs (l : List Nat) : List UInt64 := l.map QmB
theorem Qc2 (n : Nat) : EL n = (ofs (dig B64 4 n)).map W64 := by rw [EL, ofs, List.map_map]; rfl
theorem Qig {l m : List Nat} (hl : ∀ x ∈ l, x < B64) (hm : ∀ x ∈ m, x < B64) (h : ofs l = ofs m) : l = m := by
 have e : ∀ l : List Nat, (∀ x ∈ l, x < B64) → (ofs l).map UInt64.toNat = l := by
  intro l hl
  rw [ofs, List.map_map]
  conv => rhs; rw [← List.map_id l]
  apply List.map_congr_left
  intro x hx
  exact tn64 (hl x hx)
 rw [← e l hl, ← e m hm, h]
theorem Qew {x y : Nat} (hx : x < T256) (hy : y < T256) : (ofs (dig B64 4 x) == ofs (dig B64 4 y)) = (x == y) := by
 rw [QmY, beq_iff_eq, beq_iff_eq]
 refine ⟨fun h => ?_, fun h => by rw [h]⟩
 have := Qig (QfZ Qbw 4 x) (QfZ Qbw 4 y) h
 exact Qim (k := 4) (B := B64) (by rw [Qgr]; exact hx) (by rw [Qgr]; exact hy) this
theorem Qgl : (Tryz.prog.info? 22).map (·.size) = some 1 := by kernel_rfl
theorem QlE : Tryz.prog.eqGuardType Tryz.prog.depth 144 = false := by kernel_rfl
@[go_sem high] theorem Qj3 (op : BinOp) (x y : Operand) (xs ys : Array Value) (w : World) : (eqGuard op 144 x y (.agg xs) (.agg ys)).run Tryz.prog w = .ok () w := run_eqGuard_agg w op _ x y xs ys QlE
@[go_sem high] theorem QjR (x y : Nat) (hx : x < T256) (hy : y < T256) (w : World) : (binOp .eql 144 (E x) (E y)).run Tryz.prog w = .ok (.bool (x == y)) w := by
  rw [run_eql_struct, Qc2, Qc2, Qax w 0 W64 9998 144 22 4 Tryz.underlying144 Qgl Tryz.underlying22 rfl (Qcn _ _ Tryz.underlying22) _ _ (by rw [ofs, QmD, QaH]) (by rw [ofs, QmD, QaH]), Qew hx hy]
  rfl
@[go_sem high] theorem QjW (x y : Nat) (hx : x < T256) (hy : y < T256) (w : World) : (binOp .neq 144 (E x) (E y)).run Tryz.prog w = .ok (.bool (x != y)) w := by
  rw [run_neq_struct, Qc2, Qc2, Qax w 0 W64 9998 144 22 4 Tryz.underlying144 Qgl Tryz.underlying22 rfl (Qcn _ _ Tryz.underlying22) _ _ (by rw [ofs, QmD, QaH]) (by rw [ofs, QmD, QaH]), Qew hx hy]
  rfl
theorem Qlz : Tryz.prog.eqGuardType Tryz.prog.depth 143 = false := by kernel_rfl
@[go_sem high] theorem Qkh (op : BinOp) (x y : Operand) (xs ys : Array Value) (w : World) : (eqGuard op 143 x y (.agg xs) (.agg ys)).run Tryz.prog w = .ok () w := run_eqGuard_agg w op _ x y xs ys Qlz
@[go_sem high] theorem QjM (x y : Nat) (hx : x < T256) (hy : y < T256) (w : World) : (binOp .eql 143 (E x) (E y)).run Tryz.prog w = .ok (.bool (x == y)) w := by
  rw [run_eql_struct, Qc2, Qc2, Qax w 0 W64 9998 143 22 4 Tryz.underlying143 Qgl Tryz.underlying22 rfl (Qcn _ _ Tryz.underlying22) _ _ (by rw [ofs, QmD, QaH]) (by rw [ofs, QmD, QaH]), Qew hx hy]
  rfl
end Go.Proofs.YtkibgdigcgakfabGreat
namespace Go.Proofs.YtkibgdigcgakfabGreat
open Go.RowKit
def lem (n j : Nat) : Nat := n / B32 ^ j % B32
@[go_sem] theorem Qmv (n i : Nat) : (lem n i < B32) = True := eq_true (Qny _ Qdi)
@[go_sem] theorem QkA (n i : Nat) : (lem n i < B64) = True := eq_true (Nat.lt_trans (Qny _ Qdi) (by decide))
def NL (n : Nat) : List Value := (dig B32 8 n).map n32
theorem Qgy (n : Nat) : (NL n).length = 8 := by rw [NL, QmD, QaH]
theorem Qkc (n i : Nat) (h : i < 8) : (NL n)[i]? = some (n32 (lem n i)) := by rw [NL, QmR, Qde _ _ _ _ h]; rfl
@[go_sem] theorem NL_at (n i : Nat) (h : i < (NL n).length) : (NL n)[i] = n32 (lem n i) := by
  have := Qkc n i (by rw [Qgy] at h; exact h)
  rw [Qmw h] at this
  exact Option.some.inj this
def VL (n : Nat) : List Value := (dig B32 17 n).map n64
theorem Qgi (n : Nat) : (VL n).length = 17 := by rw [VL, QmD, QaH]
theorem Qkb (n i : Nat) (h : i < 17) : (VL n)[i]? = some (n64 (lem n i)) := by rw [VL, QmR, Qde _ _ _ _ h]; rfl
@[go_sem] theorem VL_at (n i : Nat) (h : i < (VL n).length) : (VL n)[i] = n64 (lem n i) := by
  have := Qkb n i (by rw [Qgi] at h; exact h)
  rw [Qmw h] at this
  exact Option.some.inj this
section
variable {ops : Array Oper} {rest : List Oper} {o : Oper} {a : Act} {w : World} {Q : Exit → Act → World → Prop}
end
@[go_sem] theorem Qlu (T : TypeId) (x : Nat) (yk : IntKind) (k : Int) (h0 : 0 ≤ k) : binOp .shl T (n64 x) (.int yk k) = pure (n64 (x * 2 ^ k.toNat)) := by
  rw [n64, Qdj _ _ _ _ h0, Qce]
  rw [QdK]
  show (BitVec.toNat _) = _
  rw [BitVec.toNat_shiftLeft, Qnu]
  show (QmB x).toNat * _ % 2 ^ 64 = _
  rw [QmF, Nat.mod_mul_mod]
  rfl
end Go.Proofs.YtkibgdigcgakfabGreat
namespace Go.Proofs.YtkibgdigcgakfabGreat
open Go.RowKit
def decV : Option Value → Nat
 | some (.int _ x) => x.toNat
 | _ => 0
def lies (B k : Nat) (g : Nat) (w : World) : Nat := val B ((Qnf k).map fun i => decV (w.cell? ⟨g, i, none⟩))
end Go.Proofs.YtkibgdigcgakfabGreat
namespace Go.Proofs.YtkibgdigcgakfabGreat
open Go.RowKit
end Go.Proofs.YtkibgdigcgakfabGreat
namespace Go.Proofs.YtkibgdigcgakfabGreat
open Go.RowKit
end Go.Proofs.YtkibgdigcgakfabGreat
namespace Go.Proofs.YtkibgdigcgakfabGreat
open Go.RowKit
end Go.Proofs.YtkibgdigcgakfabGreat
