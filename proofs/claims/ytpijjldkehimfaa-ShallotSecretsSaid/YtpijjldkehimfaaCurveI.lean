/-
  curve.Low.
-/
import Derived.Test.YtpijjldkehimfaaCurveAB
namespace Go.Proofs.Ytpijjldkehimfaa
open Go.RowKit
open Go.BigFrame

/-- What Low tells. -/
def lowB (us : List UInt8) : Bool := if us.length = 32 then ((multE (List.replicate 32 0) us : Nat) : Int) == 5 else false
end Go.Proofs.Ytpijjldkehimfaa
