/-
  Headers that are built open, hop by hop: in plain lists.
-/
import Derived.Test.YtdojjnbpidogfaaGreatRcC
namespace Go.Proofs.YtdojjnbpidogfaaGreat
open Go.RowKit
open Go.BigFrame

/-! ### Numbers to bytes -/
def bigB : Nat → Nat → List UInt8
  | 0, _ => []
  | w + 1, n => bigB w (n / 256) ++ [UInt8.ofNat n]
theorem bigB_length : ∀ w n, (bigB w n).length = w
  | 0, _ => rfl
  | w + 1, n => by rw [bigB, List.length_append, bigB_length w]; rfl
/-! ### Streams -/
/-! ### What is built -/
section
variable {n : Nat} {sl st : Nat → List UInt8} (hn1 : 1 ≤ n) (hn5 : n ≤ 5) (hsl : ∀ k, (sl k).length = 32)
include hn1 hn5 hsl
end
end Go.Proofs.YtdojjnbpidogfaaGreat

