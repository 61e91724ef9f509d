/-
  Headers that are built open, hop by hop: in plain lists.
-/
import Derived.Test.YtdojjnbpidogfaaGreatRcC
namespace Go.Proofs.YtdojjnbpidogfaaGreat
open Go.RowKit
open Go.BigFrame

/-! ### Numbers to bytes -/
/-! ### Streams -/
/-! ### What is built -/
section
variable {n : Nat} {sl st : Nat → List UInt8} (hn1 : 1 ≤ n) (hn5 : n ≤ 5) (hsl : ∀ k, (sl k).length = 32)
include hn1 hn5 hsl
end
end Go.Proofs.YtdojjnbpidogfaaGreat

