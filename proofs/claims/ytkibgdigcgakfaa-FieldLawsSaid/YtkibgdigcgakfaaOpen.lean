/-
  What the walks are told of arguments that came in.
-/
import Derived.Test.YtkibgdigcgakfaaProg
import Derived.Test.YtkibgdigcgakfaaMem
import Derived.ProofKit
import Derived.OpenShut
namespace Go.Proofs.Ytkibgdigcgakfaa
open Go.ChangeShapes Go.WideShapes Go.ChangeAt Go.RowKit
theorem wf_i64 {n : Int} (h : (Lit.int .i64 n).wf = true) : -9223372036854775808 ≤ n ∧ n ≤ 9223372036854775807 := by
  simpa [Lit.wf, IntKind.min, IntKind.max, IntKind.signed, IntKind.bits] using h
end Go.Proofs.Ytkibgdigcgakfaa
